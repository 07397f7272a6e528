/- The plain laws of the printed functions, from the bottom up to the law itself. -/
import Derived.Test.YtkchbabkbpcncaaZ1
import Derived.Test.YtkchbabkbpcncaaTLib
set_option linter.unusedSimpArgs false
set_option linter.unusedVariables false
namespace Go.VM.VL
section loops
variable {R β:Type} {l:Nat → Nat → Option R} {len:Nat} {k0 k1:Option R}
theorem Zrq (hs:∀ n i,i < len → l (n + 1) i = l n (i + 1)) (he:∀ n,l (n + 1) len = k1):∀ (d n i:Nat),i + d = len → d < n → l n i = k1:=by
 intro d
 induction d with
 | zero =>
  intro n i hi hn
  obtain ⟨n,rfl⟩:∃ m,n = m + 1:=⟨n - 1,by omega⟩
  obtain rfl:i = len:=by omega
  exact he n
 | succ d ih =>
  intro n i hi hn
  obtain ⟨n,rfl⟩:∃ m,n = m + 1:=⟨n - 1,by omega⟩
  rw [hs n i (by omega)]
  exact ih n (i + 1) (by omega) (by omega)
theorem Zb1 (hs:∀ n i,i < len → l (n + 1) i = l n (i + 1)) (he:∀ n,l (n + 1) len = k1) {N:Nat} (hN:len < N):l N 0 = k1 :=
 Zrq hs he len N 0 (by omega) hN
theorem ZmL {q:Nat → Option β} {kb:β → Option R} (hs:∀ n i,i < len → (∀ j,j < i → q j = none) → l (n + 1) i = match q i with | some b=>kb b | none=>l n (i + 1)) (he:(∀ j,j < len → q j = none) → ∀ n,l (n + 1) len = k1) :
  ∀ (d n i:Nat),i + d = len → d < n → (∀ j,j < i → q j = none) → l n i = match (List.range' i d).findSome? q with | some b=>kb b | none=>k1:=by
 intro d
 induction d with
 | zero =>
  intro n i hi hn hq
  obtain ⟨n,rfl⟩:∃ m,n = m + 1:=⟨n - 1,by omega⟩
  obtain rfl:i = len:=by omega
  rw [he hq n]; rfl
 | succ d ih =>
  intro n i hi hn hq
  obtain ⟨n,rfl⟩:∃ m,n = m + 1:=⟨n - 1,by omega⟩
  rw [hs n i (by omega) hq,List.range'_succ,List.findSome?_cons]
  cases h:q i with
  | none=>exact ih n (i + 1) (by omega) (by omega) fun j hj=>(by
    rcases Nat.lt_or_ge j i with h2 | h2
    ·exact hq j h2
    ·obtain rfl:j = i:=by omega
     exact h)
  | some b=>rfl
theorem ZhN {q:Nat → Option β} {kb:β → Option R} (hs:∀ n i,i < len → (∀ j,j < i → q j = none) → l (n + 1) i = match q i with | some b=>kb b | none=>l n (i + 1)) (he:(∀ j,j < len → q j = none) → ∀ n,l (n + 1) len = k1) {N:Nat} (hN:len < N) :
  l N 0 = match (List.range' 0 len).findSome? q with | some b=>kb b | none=>k1 :=
 ZmL hs he len N 0 (by omega) hN fun j hj=>absurd hj (by omega)
theorem Zjk {p:Nat → Bool} (hs:∀ n i,i < len → (∀ j,j < i → p j = true) → l (n + 1) i = if p i then l n (i + 1) else k0) (he:(∀ j,j < len → p j = true) → ∀ n,l (n + 1) len = k1) {N:Nat} (hN:len < N) :
  l N 0 = if (List.range' 0 len).all p then k1 else k0:=by
 have:=ZhN (l:=l) (len:=len) (k1:=k1) (q:=fun i=>if p i then none else some ()) (kb:=fun _=>k0)
  (fun n i hi hq=>by
   rw [hs n i hi fun j hj=>by
    have:=hq j hj
    cases hp:p j with
    | true=>rfl
    | false=>simp [hp] at this]
   cases p i <;> rfl)
  (fun hq n=>he (fun j hj=>by
   have:=hq j hj
   cases hp:p j with
   | true=>rfl
   | false=>simp [hp] at this) n) hN
 rw [this]
 generalize List.range' 0 len = L
 clear this hs he
 induction L with
 | nil=>rfl
 | cons a L ih =>
  rw [List.findSome?_cons,List.all_cons]
  cases hp:p a with
  | false=>simp
  | true=>simpa using ih
theorem Zfh {p:Nat → Bool} {len:Nat}:(List.range' 0 len).all p = true ↔ ∀ i,i < len → p i = true:=by
 rw [List.all_eq_true]
 exact ⟨fun h i hi=>h i (by rw [List.mem_range']; exact ⟨i,hi,by omega⟩),fun h i hi=>by
  rw [List.mem_range'] at hi
  obtain ⟨j,hj,rfl⟩:=hi
  exact h _ (by omega)⟩
theorem ZhB {q:Nat → Option β} {len:Nat}:(List.range' 0 len).findSome? q = none ↔ ∀ i,i < len → q i = none:=by
 rw [List.findSome?_eq_none_iff]
 exact ⟨fun h i hi=>h i (by rw [List.mem_range']; exact ⟨i,hi,by omega⟩),fun h i hi=>by
  rw [List.mem_range'] at hi
  obtain ⟨j,hj,rfl⟩:=hi
  exact h _ (by omega)⟩
end loops
theorem ZiY {α β:Type} (f:α → β) (l:List α) (i:Nat):nth (l.map f) i = (nth l i).map f:=by rw [Zad,Zad,List.getElem?_map]
theorem Zkh {α β:Type} (f:α → β) (l:List α) (i:Nat) (v:α):Zai (l.map f) i (f v) = (Zai l i v).map f:=by rw [ZaM,ZaM,List.map_set]
theorem Zlt {α:Type} {l:List α} {i:Nat} (h:i < l.length):nth l i = some l[i]:=by rw [Zad,List.getElem?_eq_getElem h]
theorem ZdD {α:Type} {l:List α} {i:Nat} {v:α} (h:i < l.length):nth (Zai l i v) i = some v:=by rw [Zad,ZaM,List.getElem?_set_self h]
theorem ZfR {α:Type} {f:α → Option α}:∀ {l:List α},(∀ v ∈ l,f v = some v) → ZaK f l = some l
 | [],_=>rfl
 | a :: l,h=>by
  simp only [ZaK,h a (by simp),ZfR (l:=l) fun v hv=>h v (by simp [hv])]
def inR (a b c:Int):Bool:=decide (b ≤ a) && decide (a ≤ c)
theorem Zu0 {a b c:Int}:inR a b c = true ↔ b ≤ a ∧ a ≤ c:=by simp [inR]
theorem ZaV {i:Nat} (h:i < 9223372036854775807):IntKind.i64.wrap ((i:Int) + 1) = ((i + 1:Nat):Int):=by
 rw [Zca (by omega) (by omega)]; rfl
theorem Zbo {i n:Nat} (h:i < n):decide ((i:Int) < (n:Int)) = true:=decide_eq_true (by omega)
def intsV (l:List Int):List V:=l.map (V.int .i64)
def at_ {α:Type} [Inhabited α] (l:List α) (i:Nat):α:=l.getD i default
theorem Zc7 {α:Type} [Inhabited α] {l:List α} {i:Nat} (h:i < l.length):at_ l i = l[i]:=by
 simp [at_,List.getD_eq_getElem?_getD,List.getElem?_eq_getElem h]
theorem at_mem {α:Type} [Inhabited α] {l:List α} {i:Nat} (h:i < l.length):at_ l i ∈ l:=by rw [Zc7 h]; exact List.getElem_mem h
theorem ZaD (l:List Int):(intsV l).length = l.length:=by simp [intsV]
instance:Inhabited Int:=⟨0⟩
variable {R:Type}
theorem Zae (v:V) (k:V → Option R):ZbA (some v) k = k v:=rfl
theorem ZbD (n:Int) (k:Int → Option R):asInt .i64 (.int .i64 n) k = k n:=rfl
theorem ZbH {l:List Int} {i:Nat} (h:i < l.length):nth (intsV l) i = some (.int .i64 (at_ l i)):=by rw [intsV,ZiY,Zlt h,Zc7 h]; rfl
def Zb2 (g:Nat → Nat):Nat → Nat
 | 0=>0
 | n + 1=>Zb2 g n + g n
theorem Ze0 (g:Nat → Nat):∀ {a b:Nat},a ≤ b → Zb2 g a ≤ Zb2 g b:=by
 intro a b h
 induction b with
 | zero =>
  obtain rfl:a = 0:=by omega
  exact Nat.le_refl _
 | succ b ih =>
  rcases Nat.lt_or_ge a (b + 1) with h2 | h2
  ·exact Nat.le_trans (ih (by omega)) (Nat.le_add_right _ _)
  ·obtain rfl:a = b + 1:=by omega
   exact Nat.le_refl _
theorem Zs0 (g:Nat → Nat) {i n:Nat} (h:i < n):g i ≤ Zb2 g n:=Nat.le_trans (Nat.le_add_left _ _) (Ze0 g (a:=i + 1) h)
def left (x:Int) (n:Nat):Int:=if (n:Int) ≤ x then x - n else -1
theorem ZpV {x:Int} {n:Nat} (h:(n:Int) ≤ x):left x n = x - n:=if_pos h
theorem Zms {x:Int} {n:Nat} (h:¬ (n:Int) ≤ x):left x n = -1:=if_neg h
def Zdd (xs:List V) (z:V) (i:Nat):List V:=xs.take i ++ List.replicate (xs.length - i) z
theorem Zro (xs:List V) (z:V) {i:Nat} (h:i ≤ xs.length):(Zdd xs z i).length = xs.length:=by
 simp only [Zdd,List.length_append,List.length_take,List.length_replicate]; omega
theorem Zk2 (xs:List V) (z:V) {i:Nat} (h:i < xs.length):nth (Zdd xs z i) i = some z:=by
 rw [Zad,Zdd,List.getElem?_append_right (by simp only [List.length_take]; omega)]
 rw [List.getElem?_replicate,if_pos (by simp; omega)]
theorem ZkU (xs:List V) (z v:V) {i:Nat} (h:i < xs.length) (hv:nth xs i = some v):Zai (Zdd xs z i) i v = Zdd xs z (i + 1):=by
 have hv':xs[i]? = some v:=by rw [← Zad]; exact hv
 rw [ZaM]
 apply List.ext_getElem?
 intro j
 rw [List.getElem?_set]
 have hlen:=Zro xs z (i:=i) (by omega)
 have hT:(xs.take i).length = i:=by simp; omega
 have hT2:(xs.take (i + 1)).length = i + 1:=by simp; omega
 by_cases hij:i = j
 ·subst hij
  rw [if_pos rfl,if_pos (by omega)]
  unfold Zdd
  rw [List.getElem?_append_left (by omega),List.getElem?_take_of_lt (by omega),hv']
 ·rw [if_neg hij]
  unfold Zdd
  rcases Nat.lt_or_ge j i with h2 | h2
  ·rw [List.getElem?_append_left (by omega),List.getElem?_append_left (by omega),List.getElem?_take_of_lt (by omega),List.getElem?_take_of_lt (by omega)]
  ·rw [List.getElem?_append_right (by omega),List.getElem?_append_right (by omega),List.getElem?_replicate,List.getElem?_replicate,hT,hT2]
   by_cases h3:j - i < xs.length - i
   ·rw [if_pos h3,if_pos (by omega)]
   ·rw [if_neg h3,if_neg (by omega)]
theorem Zht (xs:List V) (z:V):Zdd xs z 0 = List.replicate xs.length z:=by simp [Zdd]
theorem Zkr (xs:List V) (z:V):Zdd xs z xs.length = xs:=by simp [Zdd]
theorem map_id {f:V → V} {l:List V} (h:∀ v ∈ l,f v = v):l.map f = l:=by
 conv=>rhs; rw [← List.map_id l]
 exact List.map_congr_left h
theorem Zdo {α:Type} (l:List α) {n:Nat} (h:l.length = n):(l.drop 0).take n = l:=by
 rw [List.drop_zero,List.take_of_length_le (by omega)]
theorem Zp1 {f:V → V} {xs:List V} {z:V} (hx:∀ v ∈ xs,f v = v) (hz:f z = z) (i:Nat):(Zdd xs z i).map f = Zdd xs z i:=map_id fun v hv=>by
 rcases List.mem_append.1 hv with h | h
 ·exact hx v (List.mem_of_mem_take h)
 ·rw [(List.mem_replicate.1 h).2]; exact hz
theorem ZbM {α:Type} (l:List α) (i:Nat) (v:α):(Zai l i v).length = l.length:=by rw [ZaM,List.length_set]
theorem Zej {α:Type} (l:List α) (i:Nat) (v u:α):Zai (Zai l i v) i u = Zai l i u:=by rw [ZaM,ZaM,ZaM,List.set_set]
theorem ZcS {α:Type} [Inhabited α] {l:List α} {i j:Nat} {v:α} (h:i < l.length):at_ (Zai l i v) j = if i = j then v else at_ l j:=by
 unfold at_
 rw [ZaM,List.getD_eq_getElem?_getD,List.getD_eq_getElem?_getD,List.getElem?_set]
 by_cases hij:i = j
 ·subst hij; simp [h]
 ·simp [hij]
end Go.VM.VL
set_option linter.unusedSimpArgs false
set_option linter.unusedVariables false
namespace Go.VM.VL
instance:Inhabited (List Int):=⟨[]⟩
abbrev uI:TypeId:=3
def rowV (fq:Fl) (r:List Int):V:=.list 1 (intsV r) fq
def rowsV (fq:Fl) (d:List (List Int)):List V:=d.map (rowV fq)
def ZtU (r:List Int):V:=.uni uI 1 (intsV r)
def Zba (d:List (List Int)):List V:=d.map ZtU
section
variable {R:Type} (N:Nat) {fq fr:Fl}
theorem Za4 (d:List (List Int)):(rowsV fq d).length = d.length:=by simp [rowsV]
theorem Zc6 (d:List (List Int)):(Zba d).length = d.length:=by simp [Zba]
theorem ZbR {d:List (List Int)} {i:Nat} (h:i < d.length):nth (rowsV fq d) i = some (rowV fq (at_ d i)):=by rw [rowsV,ZiY,Zlt h,Zc7 h]; rfl
theorem ZeL {d:List (List Int)} {i:Nat} (h:i < d.length):nth (Zba d) i = some (ZtU (at_ d i)):=by rw [Zba,ZiY,Zlt h,Zc7 h]; rfl
theorem Zbl (r:List Int) (k:List V → Fl → Option R):ZaP 1 (rowV fq r) k = k (intsV r) fq:=rfl
theorem Zqj (d:List (List Int)):(Zba d).map V.unil = rowsV .bor d:=by rw [Zba,rowsV,List.map_map]; rfl
theorem ZqW (d:List (List Int)):(rowsV fq d).map V.lent = rowsV .bor d:=by rw [rowsV,rowsV,List.map_map]; rfl
theorem ZcL (n:Nat) (d:List (List Int)):(Zba d).map (trimV n) = Zba d:=map_id fun v hv=>by
 obtain ⟨e,_,rfl⟩:=List.mem_map.1 hv; rfl
theorem ZqI (n:Nat) (d:List (List Int)):∀ v ∈ Zba d,trimV n v = v:=fun v hv=>by
 obtain ⟨e,_,rfl⟩:=List.mem_map.1 hv; rfl
theorem Zrb (s:S) (n:Nat) (d:List (List Int)):ZaK (freeze true s (n + 1)) (rowsV .bor d) = some (rowsV .bor d):=ZfR fun v hv=>by
 obtain ⟨e,_,rfl⟩:=List.mem_map.1 hv; rfl
theorem Zqh (l:List Int):Zbj (intsV l) = true:=by
 unfold Zbj
 rw [List.all_eq_true]; intro v hv
 obtain ⟨e,_,rfl⟩:=List.mem_map.1 hv
 rfl
theorem ZhT (l:List Int):Zaw (intsV l) = true:=by
 unfold Zaw
 rw [List.all_eq_true]; intro v hv
 obtain ⟨e,_,rfl⟩:=List.mem_map.1 hv
 rfl
theorem ZcI (l:List Int):(intsV l).all V.scalE = true:=by
 rw [List.all_eq_true]; intro v hv
 obtain ⟨e,_,rfl⟩:=List.mem_map.1 hv
 rfl
theorem ZdI (d:List (List Int)):Zbj (Zba d) = true:=by
 unfold Zbj
 rw [List.all_eq_true]; intro v hv
 obtain ⟨e,_,rfl⟩:=List.mem_map.1 hv
 rfl
theorem ZcD (d:List (List Int)):Zaw (Zba d) = true:=by
 unfold Zaw
 rw [List.all_eq_true]; intro v hv
 obtain ⟨e,_,rfl⟩:=List.mem_map.1 hv
 rfl
theorem Zpg (l:List Int) (i:Nat) (n:Int):Zai (intsV l) i (.int .i64 n) = intsV (Zai l i n):=Zkh (V.int .i64) l i n
theorem Zfv (d:List (List Int)) (i:Nat) (r:List Int):Zai (Zba d) i (ZtU r) = Zba (Zai d i r):=Zkh ZtU d i r
def dSz (d:List (List Int)):Nat:=d.length + Zb2 (fun i=>(at_ d i).length) d.length
def DkOk (d:List (List Int)):Prop:=d.length ≤ 9223372036854775807 ∧ ∀ i,i < d.length → (at_ d i).length ≤ 9223372036854775807
theorem ZsE (r:List Int) (hr:r.length ≤ 9223372036854775807) (f:Fl) (x:Int) (h0:0 ≤ x) (h1:x ≤ 1048576) (k:Int → Option R):Zta N (intsV r) f x k = k (left x r.length):=by
 rw [ZnZ]
 unfold ZkM left
 rw [ZaD,Zca (by omega) (by omega)]
 by_cases h:(r.length:Int) ≤ x
 ·rw [decide_eq_false (by omega),if_pos h]
 ·rw [decide_eq_true (by omega),if_neg h]
theorem Zqa {l:List (List Int)} (hl:DkOk l) (hN:1048576 < N) (f:Fl) (x:Int) (h0:0 ≤ x) (h1:x ≤ 1048576) (k:Int → Option R) :
  ZsQ N (rowsV fq l) f x k = k (left x (dSz l)):=by
 rw [Zoj]
 unfold Zk9
 have hll:=hl.1
 rw [Za4,Zca (by omega) (by omega)]
 by_cases h:(l.length:Int) ≤ x
 ·rw [decide_eq_false (by omega)]
  let g:=fun i=>(at_ l i).length
  have ge:∀ i,Zb2 g (i + 1) = Zb2 g i + (at_ l i).length:=fun i=>rfl
  have e0:x - (l.length:Int) = x - l.length - (Zb2 g 0:Nat):=by simp [Zb2]
  show Zdv N (rowsV fq l) f (fun _=>k (-1)) (fun x=>k x) N (x - l.length) 0 = _
  rw [e0]
  refine (Zjk (l:=fun n i=>Zdv N (rowsV fq l) f (fun _=>k (-1)) (fun x=>k x) n (x - l.length - Zb2 g i) (i:Int)) (len:=l.length)
   (p:=fun i=>decide (0 ≤ x - l.length - Zb2 g (i + 1))) (k0:=k (-1)) (k1:=k (x - l.length - Zb2 g l.length)) ?_ ?_ (show l.length < N by omega)).trans ?_
  ·intro n i hi hq
   have hn:0 ≤ x - l.length - Zb2 g i:=by
    cases i with
    | zero=>simp only [Zb2]; omega
    | succ i=>exact of_decide_eq_true (hq i (by omega))
   simp only [Zdv,Zcw,Za4,Zbo hi,Int.natCast_nonneg,if_true,Int.toNat_natCast,ZbR hi,Zae,Zbl]
   rw [ZsE N _ (hl.2 i hi) _ _ hn (by omega)]
   simp only [ge]
   by_cases h3:((at_ l i).length:Int) ≤ x - l.length - Zb2 g i
   ·rw [ZpV h3,decide_eq_true (p:=0 ≤ _) (by omega),decide_eq_false (by omega),ZaV (i:=i) (by omega)]
    simp only [Int.natCast_add,Int.sub_sub,Int.add_assoc,if_true]
   ·rw [Zms h3,decide_eq_false (p:=0 ≤ _) (by omega)]
    simp
  ·intro _ n
   simp only [Zdv,Zcw,Za4,Int.lt_irrefl,decide_false]
  ·have hall:(List.range' 0 l.length).all (fun i=>decide (0 ≤ x - l.length - Zb2 g (i + 1))) = decide (0 ≤ x - l.length - Zb2 g l.length):=by
    rw [Bool.eq_iff_iff,Zfh]
    constructor
    ·intro hq
     rcases Nat.eq_zero_or_pos l.length with hz0 | hz0
     ·have e1:Zb2 g l.length = 0:=by rw [hz0]; rfl
      rw [e1]
      exact decide_eq_true (by omega)
     ·obtain ⟨m,hm⟩:∃ m,l.length = m + 1:=⟨l.length - 1,by omega⟩
      have:=hq m (by omega)
      rwa [← hm] at this
    ·intro hq i hi
     have:=of_decide_eq_true hq
     have:=Ze0 g (a:=i + 1) (b:=l.length) (by omega)
     exact decide_eq_true (by omega)
   rw [hall]
   have e:dSz l = l.length + Zb2 g l.length:=rfl
   simp only [left,e]
   by_cases h4:0 ≤ x - l.length - Zb2 g l.length
   ·rw [decide_eq_true h4,if_pos rfl,if_pos (by omega)]
    simp only [Int.natCast_add,Int.sub_sub]
   ·rw [decide_eq_false h4,if_neg (by simp),if_neg (by omega)]
 ·rw [decide_eq_true (by omega)]
  rw [Zms]
  unfold dSz
  omega
structure SmallD (d:List (List Int)):Prop where
 len:d.length ≤ 1048576
 row:∀ i,i < d.length → (at_ d i).length ≤ 1048576
 sum:Zb2 (fun i=>(at_ d i).length) d.length ≤ 1048576
theorem SmallD.of {d:List (List Int)} (h:dSz d ≤ 1048576):SmallD d:=by
 unfold dSz at h
 exact ⟨by omega,fun i hi=>Nat.le_trans (Zs0 (fun i=>(at_ d i).length) hi) (by omega),by omega⟩
theorem Zvm (a:Int) (v:V):putCells (.int .i64 a) 0 [v] = some v:=rfl
theorem ZsG (es:List V) (v:V):putCells (.uni uI 1 es) 0 [v] = some v:=rfl
theorem ZuJ (o a b n:Nat) (v:V):putCells (.arr o a b n) 0 [v] = some v:=rfl
theorem ZsA {l:List Int} (hl:l.length ≤ 1048576) (hN:1048576 < N) (f:Fl) (k0:List V → Option R) :
  ZdA N (intsV l) f l.length k0 N 0 (List.replicate l.length (.int .i64 0)) = k0 (intsV l):=by
 have e0:List.replicate l.length (V.int .i64 0) = Zdd (intsV l) (.int .i64 0) 0:=by rw [Zht,ZaD]
 rw [e0]
 refine Zb1 (l:=fun n i=>ZdA N (intsV l) f l.length k0 n (i:Int) (Zdd (intsV l) (.int .i64 0) i)) (len:=l.length) (k1:=k0 (intsV l)) ?_ ?_ (show l.length < N by omega)
 ·intro n i hi
  have hi':i < (intsV l).length:=by rw [ZaD]; exact hi
  simp only [ZdA,Zcs,ZaD,Zbo hi,Int.natCast_nonneg,if_true,Int.toNat_natCast,ZbH hi,Zae,ZbD,Nat.zero_add,Zk2 _ _ hi',Zvm]
  rw [if_pos ⟨trivial,by omega⟩,ZaV (i:=i) (by omega),← ZkU (intsV l) _ _ hi' (ZbH hi)]
 ·intro n
  simp only [ZdA,Zcs,ZaD,Int.lt_irrefl,decide_false]
  rw [show Zdd (intsV l) (.int .i64 0) l.length = intsV l by rw [← ZaD l]; exact Zkr _ _]
theorem Ztf {l:List Int} (hl:l.length ≤ 1048576) (hN:1048576 < N) (f:Fl) (k:Nat → List V → Option R):Zsv N (intsV l) f k = k l.length (intsV l):=by
 rw [ZnF]
 unfold ZkI
 rw [ZaD,if_pos ⟨by omega,rfl,by omega⟩,Int.toNat_natCast]
 refine (ZsA N hl hN f _).trans ?_
 simp only [Zqh,Bool.and_true,Zaf]
theorem ZrD {l:List (List Int)} (hl:SmallD l) (hN:1048576 < N) (f:Fl) (k0:List V → Option R) :
  Zdz N (rowsV fq l) f l.length k0 N 0 (List.replicate l.length (.uni uI 1 [])) = k0 (Zba l):=by
 have hll:=hl.len
 have e0:List.replicate l.length (V.uni uI 1 []) = Zdd (Zba l) (.uni uI 1 []) 0:=by rw [Zht,Zc6]
 rw [e0]
 refine Zb1 (l:=fun n i=>Zdz N (rowsV fq l) f l.length k0 n (i:Int) (Zdd (Zba l) (.uni uI 1 []) i)) (len:=l.length) (k1:=k0 (Zba l)) ?_ ?_ (show l.length < N by omega)
 ·intro n i hi
  have hi':i < (Zba l).length:=by rw [Zc6]; exact hi
  simp only [Zdz,Zck,Za4,Zbo hi,Int.natCast_nonneg,if_true,Int.toNat_natCast,ZbR hi,Zae,Zbl,Ztf N (hl.row i hi) hN,Nat.zero_add,Zk2 _ _ hi',Zdo _ (ZaD _),ZsG]
  rw [if_pos ⟨trivial,by omega⟩]
  simp only [ZaD,Nat.le_refl,decide_true,ZcI,Zaf]
  have e:=ZkU (Zba l) (.uni uI 1 []) _ hi' (ZeL hi)
  unfold ZtU at e
  rw [ZaV (i:=i) (by omega),e,Zp1 (ZqI 1 l) rfl]
 ·intro n
  simp only [Zdz,Zck,Za4,Int.lt_irrefl,decide_false]
  rw [show Zdd (Zba l) (.uni uI 1 []) l.length = Zba l by rw [← Zc6 l]; exact Zkr _ _,ZcL]
theorem ZqE {l:List (List Int)} (hl:SmallD l) (hN:1048576 < N) (f:Fl) (k:Nat → List V → Option R):ZlW N (rowsV fq l) f k = k l.length (Zba l):=by
 rw [Zm8]
 unfold ZjP
 have hll:=hl.len
 rw [Za4,if_pos ⟨by omega,rfl,by omega⟩,Int.toNat_natCast]
 refine (ZrD N hl hN f _).trans ?_
 simp only [ZdI,Bool.and_true,Zaf]
theorem ZsM {l:List Int} (hl:l.length ≤ 1048576) (hN:1048576 < N) (f g:Fl) (k:Bool → Option R):Zsa N (intsV l) f (intsV l) g k = k true:=by
 rw [Zn3]
 unfold ZjD
 simp only [bne_self_eq_false]
 refine Zb1 (l:=fun n i=>Zeo N (intsV l) f (intsV l) g (fun _=>k false) (fun _=>k true) n (i:Int)) (len:=l.length) (k1:=k true) ?_ ?_ (show l.length < N by omega)
 ·intro n i hi
  simp only [Zeo,Zcr,ZaD,Zbo hi,Int.natCast_nonneg,if_true,Int.toNat_natCast,ZbH hi,Zae,ZbD,bne_self_eq_false]
  rw [ZaV (i:=i) (by omega)]
 ·intro n
  simp only [Zeo,Zcr,ZaD,Int.lt_irrefl,decide_false]
theorem Zj3 {l:List (List Int)} (hll:l.length ≤ 1048576) (hr:∀ i,i < l.length → (at_ l i).length ≤ 1048576) (hN:1048576 < N) (f g:Fl) (k:Bool → Option R):Zmz N (rowsV fq l) f (rowsV fr l) g k = k true:=by
 rw [Zn6]
 unfold ZkS
 simp only [Za4,bne_self_eq_false]
 refine Zb1 (l:=fun n i=>Zei N (rowsV fq l) f (rowsV fr l) g (fun _=>k false) (fun _=>k true) n (i:Int)) (len:=l.length) (k1:=k true) ?_ ?_ (show l.length < N by omega)
 ·intro n i hi
  simp only [Zei,Zcv,Za4,Zbo hi,Int.natCast_nonneg,if_true,Int.toNat_natCast,ZbR hi,Zae,Zbl,ZsM N (hr i hi) hN,Bool.not_true]
  rw [ZaV (i:=i) (by omega)]
 ·intro n
  simp only [Zei,Zcv,Za4,Int.lt_irrefl,decide_false]
def Zhf (x:Nat) (r:List Int):Prop:=∀ j,j < r.length → at_ r j = ((x + j:Nat):Int)
theorem Zuh (x:Nat):∀ (d n i:Nat) (L:List Int),i + d = L.length → d < n → x + L.length < 10 ^ 15 →
  ∃ L':List Int,L'.length = L.length ∧ (∀ j,j < i → at_ L' j = at_ L j) ∧ (∀ j,i ≤ j → j < L.length → at_ L' j = ((x + j:Nat):Int)) ∧
   ∀ {R:Type} (k0:Int → List V → Option R),Zet N L.length k0 n ((x + i:Nat):Int) (i:Int) (intsV L) = k0 ((x + L.length:Nat):Int) (intsV L'):=by
 intro d
 induction d with
 | zero =>
  intro n i L hi hn hx
  obtain ⟨n,rfl⟩:∃ m,n = m + 1:=⟨n - 1,by omega⟩
  obtain rfl:i = L.length:=by omega
  refine ⟨L,rfl,fun _ _=>rfl,fun j h1 h2=>absurd h2 (by omega),fun k0=>?_⟩
  simp only [Zet,Zcp,Int.lt_irrefl,decide_false]
 | succ d ih =>
  intro n i L hi hn hx
  obtain ⟨n,rfl⟩:∃ m,n = m + 1:=⟨n - 1,by omega⟩
  have hil:i < L.length:=by omega
  obtain ⟨L',h1,h2,h3,h4⟩:=ih n (i + 1) (Zai L i ((x + i:Nat):Int)) (by rw [ZbM]; omega) (by omega) (by rw [ZbM]; omega)
  rw [ZbM] at h1 h3 h4
  refine ⟨L',h1,fun j hj=>?_,fun j hj hj2=>?_,fun k0=>?_⟩
  ·rw [h2 j (by omega),ZcS hil,if_neg (by omega)]
  ·by_cases hij:i = j
   ·subst hij; rw [h2 i (by omega),ZcS hil,if_pos rfl]
   ·exact h3 j (by omega) hj2
  ·simp only [Zet,Zcp,Zbo hil]
   rw [if_pos ⟨by omega,by omega⟩,Int.toNat_natCast,Nat.zero_add,ZbH hil]
   simp only [Zvm]
   rw [ZaV (i:=x + i) (by omega),ZaV (i:=i) (by omega),Zpg]
   exact h4 k0
theorem Zo6 (hN:1048576 < N) (x:Nat) (L:List Int) (hl:L.length ≤ 1048576) (hx:x + L.length < 10 ^ 15) :
  ∃ L':List Int,L'.length = L.length ∧ Zhf x L' ∧
   ∀ {R:Type} (k:Int → List V → Option R),Ztu N L.length (x:Int) (intsV L) k = k ((x + L.length:Nat):Int) (intsV L'):=by
 obtain ⟨L',h1,_,h3,h4⟩:=Zuh N x L.length N 0 L (by omega) (by omega) hx
 refine ⟨L',h1,fun j hj=>h3 j (by omega) (by omega),fun k=>?_⟩
 rw [Znl]
 unfold ZjX
 refine (h4 _).trans ?_
 simp only [ZhT,Bool.and_true,Zaf]
theorem Zxk (v:V) (h:∀ cs,v ≠ .agg cs) (K:V → List V → Option R):ZbE (v.cells.drop 0) K = K v []:=by
 cases v <;> first | rfl | exact absurd rfl (h _)
theorem Zlz (es:List V) (K:V → List V → Option R):ZbE ((V.uni uI 1 es).cells.drop 0) K = K (.uni uI 1 es) []:=rfl
theorem ZqG (o a b n:Nat) (K:V → List V → Option R):ZbE ((V.arr o a b n).cells.drop 0) K = K (.arr o a b n) []:=rfl
theorem Zh8 (es:List V) (K:List V → Option R):Zdy uI 1 (.uni uI 1 es) K = K es:=rfl
theorem Zkm (o n:Nat):Zdg o n (.arr o 0 0 n) = true:=by simp [Zdg]
def ZaQ (d:List (List Int)) (i:Nat):Nat:=Zb2 (fun i=>(at_ d i).length) i
theorem Zec {g h:Nat → Nat}:∀ {n:Nat},(∀ i,i < n → g i = h i) → Zb2 g n = Zb2 h n
 | 0,_=>rfl
 | n + 1,H=>by simp only [Zb2]; rw [Zec fun i hi=>H i (by omega),H n (by omega)]
theorem Zup (hN:1048576 < N) (x:Nat):∀ (d n i:Nat) (L:List (List Int)),i + d = L.length → d < n → L.length ≤ 1048576 → (∀ j,j < L.length → (at_ L j).length ≤ 1048576) → x + ZaQ L L.length < 10 ^ 15 →
  ∃ L':List (List Int),L'.length = L.length ∧ (∀ j,j < L.length → (at_ L' j).length = (at_ L j).length) ∧ (∀ j,j < i → at_ L' j = at_ L j) ∧ (∀ j,i ≤ j → j < L.length → Zhf (x + ZaQ L j) (at_ L' j)) ∧
   ∀ {R:Type} (k0:Int → List V → Option R),Zeq N L.length k0 n ((x + ZaQ L i:Nat):Int) (i:Int) (Zba L) = k0 ((x + ZaQ L L.length:Nat):Int) (Zba L'):=by
 intro d
 induction d with
 | zero =>
  intro n i L hi hn hll hr hx
  obtain ⟨n,rfl⟩:∃ m,n = m + 1:=⟨n - 1,by omega⟩
  obtain rfl:i = L.length:=by omega
  refine ⟨L,rfl,fun _ _=>rfl,fun _ _=>rfl,fun j h1 h2=>absurd h2 (by omega),fun k0=>?_⟩
  simp only [Zeq,Zcm,Int.lt_irrefl,decide_false,ZcL]
 | succ d ih =>
  intro n i L hi hn hll hr hx
  obtain ⟨n,rfl⟩:∃ m,n = m + 1:=⟨n - 1,by omega⟩
  have hil:i < L.length:=by omega
  have hle:ZaQ L (i + 1) ≤ ZaQ L L.length:=Ze0 _ (by omega)
  have hs1:ZaQ L (i + 1) = ZaQ L i + (at_ L i).length:=rfl
  obtain ⟨r',r1,r2,r3⟩:=Zo6 N hN (x + ZaQ L i) (at_ L i) (hr i hil) (by omega)
  have hsame:∀ m,ZaQ (Zai L i r') m = ZaQ L m:=fun m=>Zec fun j _=>by
   simp only [ZcS hil]
   split
   ·rename_i h; subst h; exact r1
   ·rfl
  obtain ⟨L',h1,h1b,h2,h3,h4⟩:=ih n (i + 1) (Zai L i r') (by rw [ZbM]; omega) (by omega) (by rw [ZbM]; exact hll) (fun j hj=>by
   rw [ZbM] at hj
   rw [ZcS hil]
   split
   ·rw [r1]; exact hr i hil
   ·exact hr j hj) (by rw [ZbM,hsame]; exact hx)
  rw [ZbM] at h1 h1b h3 h4
  simp only [hsame] at h3 h4
  refine ⟨L',h1,fun j hj=>?_,fun j hj=>?_,fun j hj hj2=>?_,fun k0=>?_⟩
  ·rw [h1b j hj,ZcS hil]
   split
   ·rename_i h; subst h; exact r1
   ·rfl
  ·rw [h2 j (by omega),ZcS hil,if_neg (by omega)]
  ·by_cases hij:i = j
   ·subst hij
    rw [h2 i (by omega),ZcS hil,if_pos rfl]
    exact r2
   ·exact h3 j (by omega) hj2
  ·have hil':i < (Zba L).length:=by rw [Zc6]; exact hil
   have hc:((0:Int) ≤ (i:Int) ∧ (i:Int) < (L.length:Int)) = True:=eq_true ⟨by omega,by omega⟩
   simp only [Zeq,Zcm,Zbo hil,hc,if_true,Int.toNat_natCast,Nat.zero_add,ZeL hil,ZtU,Zlz,Zh8,ZsG,ZuJ,ZaD,ZhT,Bool.and_true,Zaf,r3,ZdD,Zej,hil',ZqG,Zkm,r1,Nat.le_refl,decide_true,Zdo (intsV r') ((ZaD r').trans r1),ZcI,
    ZaV (i:=i) (show i < 9223372036854775807 by omega)]
   have e4:(Zai (Zba L) i (.uni uI 1 (intsV r'))).map (trimV 1) = Zba (Zai L i r'):=(congrArg (List.map (trimV 1)) (Zfv L i r')).trans (ZcL 1 _)
   rw [e4,Nat.add_assoc]
   exact h4 k0
theorem Zgy (hN:1048576 < N) (x:Nat) (L:List (List Int)) (hll:L.length ≤ 1048576) (hr:∀ j,j < L.length → (at_ L j).length ≤ 1048576) (hx:x + ZaQ L L.length < 10 ^ 15) :
  ∃ L':List (List Int),L'.length = L.length ∧ (∀ j,j < L.length → (at_ L' j).length = (at_ L j).length) ∧ (∀ j,j < L.length → Zhf (x + ZaQ L j) (at_ L' j)) ∧
   ∀ {R:Type} (k:Int → List V → Option R),ZmQ N L.length (x:Int) (Zba L) k = k ((x + ZaQ L L.length:Nat):Int) (Zba L'):=by
 obtain ⟨L',h1,h1b,_,h3,h4⟩:=Zup N hN x L.length N 0 L (by omega) (by omega) hll hr hx
 refine ⟨L',h1,h1b,fun j hj=>h3 j (by omega) hj,fun k=>?_⟩
 rw [Zm4]
 unfold ZjB
 refine (h4 _).trans ?_
 simp only [ZcD,Bool.and_true,Zaf]
theorem ZpI (hN:1048576 < N) (x:Nat) (L:List Int) (hl:L.length ≤ 1048576) (hx:x + L.length < 10 ^ 15) (hL:Zhf x L) (f:Fl) (k:Int → Option R) :
  Ztq N (intsV L) f (x:Int) k = k ((x + L.length:Nat):Int):=by
 rw [ZnY]
 unfold Zku
 refine Zb1 (l:=fun n i=>Zd7 N (intsV L) f (fun _=>k (-1)) (fun x=>k x) n ((x + i:Nat):Int) (i:Int)) (len:=L.length) (k1:=k ((x + L.length:Nat):Int)) ?_ ?_ (show L.length < N by omega)
 ·intro n i hi
  simp only [Zd7,Zct,ZaD,Zbo hi,Int.natCast_nonneg,if_true,Int.toNat_natCast,ZbH hi,Zae,ZbD,hL i hi,bne_self_eq_false]
  rw [ZaV (i:=x + i) (by omega),ZaV (i:=i) (by omega)]
  rfl
 ·intro n
  simp only [Zd7,Zct,ZaD,Int.lt_irrefl,decide_false]
theorem ZmG (hN:1048576 < N) (x:Nat) (L:List (List Int)) (hll:L.length ≤ 1048576) (hr:∀ j,j < L.length → (at_ L j).length ≤ 1048576) (hx:x + ZaQ L L.length < 10 ^ 15) (hL:∀ j,j < L.length → Zhf (x + ZaQ L j) (at_ L j)) (f:Fl) (k:Int → Option R) :
  Zpc N (rowsV fq L) f (x:Int) k = k ((x + ZaQ L L.length:Nat):Int):=by
 rw [Znp]
 unfold ZjG
 refine Zb1 (l:=fun n i=>Zee N (rowsV fq L) f (fun _=>k (-1)) (fun x=>k x) n ((x + ZaQ L i:Nat):Int) (i:Int)) (len:=L.length) (k1:=k ((x + ZaQ L L.length:Nat):Int)) ?_ ?_ (show L.length < N by omega)
 ·intro n i hi
  have hle:ZaQ L (i + 1) ≤ ZaQ L L.length:=Ze0 _ (by omega)
  have hs1:ZaQ L (i + 1) = ZaQ L i + (at_ L i).length:=rfl
  simp only [Zee,Zcn,Za4,Zbo hi,Int.natCast_nonneg,if_true,Int.toNat_natCast,ZbR hi,Zae,Zbl]
  rw [ZpI N hN _ _ (hr i hi) (by omega) (hL i hi),decide_eq_false (by omega),ZaV (i:=i) (by omega),Nat.add_assoc]
  rfl
 ·intro n
  simp only [Zee,Zcn,Za4,Int.lt_irrefl,decide_false]
end
end Go.VM.VL
set_option linter.unusedSimpArgs false
set_option linter.unusedVariables false
namespace Go.VM.VL
theorem ZtI (y:Int) (l:List Int):at_ (y :: l) 0 = y:=rfl
theorem ZjH (y:Int) (l:List Int) (i:Nat):at_ (y :: l) (i + 1) = at_ l i:=rfl
def Zew (x:Int):List Int → Nat
 | []=>0
 | y :: l=>if y < x then Zew x l + 1 else 0
theorem Zmo (x:Int):∀ s,Zew x s ≤ s.length
 | []=>Nat.le_refl _
 | y :: l=>by
  have:=Zmo x l
  simp only [Zew,List.length_cons]
  split <;> omega
theorem Zrn (x:Int):∀ (s:List Int) (i:Nat),i < Zew x s → at_ s i < x
 | [],i,h=>by simp [Zew] at h
 | y :: l,i,h=>by
  simp only [Zew] at h
  split at h
  ·cases i with
   | zero=>assumption
   | succ i=>exact Zrn x l i (by omega)
  ·omega
theorem Zrr (x:Int):∀ s:List Int,Zew x s < s.length → ¬ at_ s (Zew x s) < x
 | [],h=>by simp at h
 | y :: l,h=>by
  simp only [Zew] at h ⊢
  split at h
  ·rename_i hy
   rw [if_pos hy,ZjH]
   exact Zrr x l (by simp at h; omega)
  ·rename_i hy
   rw [if_neg hy]
   exact hy
def Zfl (x:Int):List Int → List Int
 | []=>[x]
 | y :: l=>if y < x then y :: Zfl x l else if y = x then y :: l else x :: y :: l
theorem Zgv (x:Int):∀ s:List Int,Zew x s < s.length → at_ s (Zew x s) = x → Zfl x s = s
 | [],h,_=>by simp at h
 | y :: l,h,he=>by
  simp only [Zfl]
  by_cases hy:y < x
  ·have e:Zew x (y :: l) = Zew x l + 1:=if_pos hy
   rw [e] at h he
   rw [if_pos hy,Zgv x l (by simp at h; omega) he]
  ·have e:Zew x (y :: l) = 0:=if_neg hy
   rw [e] at he
   have he':y = x:=he
   rw [if_neg hy,if_pos he']
theorem Zgk (x:Int):∀ s:List Int,¬ (Zew x s < s.length ∧ at_ s (Zew x s) = x) → Zfl x s = s.take (Zew x s) ++ [x] ++ s.drop (Zew x s)
 | [],_=>by simp [Zfl,Zew]
 | y :: l,h=>by
  simp only [Zfl]
  by_cases hy:y < x
  ·have e:Zew x (y :: l) = Zew x l + 1:=if_pos hy
   rw [e] at h ⊢
   rw [if_pos hy,Zgk x l (fun hc=>h ⟨by simp; omega,hc.2⟩)]
   rfl
  ·have e:Zew x (y :: l) = 0:=if_neg hy
   rw [e] at h ⊢
   have hne:¬ y = x:=fun he=>h ⟨by simp,he⟩
   rw [if_neg hy,if_neg hne]
   rfl
theorem ZfY (x n:Int):∀ s:List Int,n ∈ Zfl x s ↔ n ∈ s ∨ n = x
 | []=>by simp [Zfl]
 | y :: l=>by
  simp only [Zfl]
  split
  ·rw [List.mem_cons,ZfY x n l,List.mem_cons]; exact or_assoc.symm
  ·split
   ·rename_i h; subst h
    constructor
    ·exact .inl
    ·rintro (h | rfl)
     ·exact h
     ·exact List.mem_cons_self
   ·simp only [List.mem_cons]
    constructor
    ·rintro (h | h)
     ·exact .inr h
     ·exact .inl h
    ·rintro (h | h)
     ·exact .inr h
     ·exact .inl h
def Srt (s:List Int):Prop:=s.Pairwise (· < ·)
theorem Zil (x:Int):∀ s:List Int,Srt s → Srt (Zfl x s)
 | [],_=>by simp [Srt,Zfl]
 | y :: l,h=>by
  obtain ⟨h1,h2⟩:=List.pairwise_cons.1 h
  simp only [Zfl]
  split
  ·rename_i hy
   refine List.pairwise_cons.2 ⟨fun a ha=>?_,Zil x l h2⟩
   rcases (ZfY x a l).1 ha with h | rfl
   ·exact h1 a h
   ·exact hy
  ·rename_i hy
   split
   ·exact h
   ·rename_i hne
    refine List.pairwise_cons.2 ⟨fun a ha=>?_,h⟩
    rcases List.mem_cons.1 ha with rfl | ha
    ·omega
    ·have:=h1 a ha; omega
theorem Zna (x:Int):∀ s:List Int,Srt s → (Zfl x s).length = if x ∈ s then s.length else s.length + 1
 | [],_=>by simp [Zfl]
 | y :: l,h=>by
  obtain ⟨h1,h2⟩:=List.pairwise_cons.1 h
  simp only [Zfl]
  by_cases hy:y < x
  ·rw [if_pos hy,List.length_cons,Zna x l h2]
   have:x ∈ y :: l ↔ x ∈ l:=by
    rw [List.mem_cons]
    exact ⟨fun h=>h.resolve_left (by omega),.inr⟩
   by_cases hx:x ∈ l
   ·rw [if_pos hx,if_pos (this.2 hx),List.length_cons]
   ·rw [if_neg hx,if_neg (fun h=>hx (this.1 h)),List.length_cons]
  ·rw [if_neg hy]
   by_cases he:y = x
   ·rw [if_pos he,if_pos (by rw [he]; exact List.mem_cons_self)]
   ·rw [if_neg he,if_neg (fun hm=>by
     rcases List.mem_cons.1 hm with h | h
     ·exact he h.symm
     ·have:=h1 x h; omega)]
    rfl
theorem Zrd (x:Int) (s:List Int):(Zfl x s).length ≤ s.length + 1:=by
 by_cases h:Zew x s < s.length ∧ at_ s (Zew x s) = x
 ·rw [Zgv x s h.1 h.2]; omega
 ·rw [Zgk x s h]
  have:=Zmo x s
  simp only [List.length_append,List.length_take,List.length_drop,List.length_singleton]; omega
def Zlb (s:List Int) (l:List Int):List Int:=l.foldl (fun s x=>Zfl x s) s
theorem Zlf:∀ (l s:List Int),(Zlb s l).length ≤ s.length + l.length
 | [],s=>Nat.le_refl _
 | x :: l,s=>by
  have:=Zlf l (Zfl x s)
  have:=Zrd x s
  show (Zlb (Zfl x s) l).length ≤ _
  simp only [List.length_cons]; omega
theorem Ztd:∀ (l s:List Int),Srt s → Srt (Zlb s l)
 | [],s,h=>h
 | x :: l,s,h=>Ztd l (Zfl x s) (Zil x s h)
theorem Zsw (n:Int):∀ (l s:List Int),n ∈ Zlb s l ↔ n ∈ s ∨ n ∈ l
 | [],s=>by simp [Zlb]
 | x :: l,s=>by
  show n ∈ Zlb (Zfl x s) l ↔ _
  rw [Zsw n l (Zfl x s),ZfY,List.mem_cons,or_assoc]
theorem Znn:∀ (l s:List Int),Srt s → ((Zlb s l).length = s.length + l.length ↔ l.Nodup ∧ ∀ x ∈ l,x ∉ s)
 | [],s,h=>by simp [Zlb]
 | x :: l,s,h=>by
  show (Zlb (Zfl x s) l).length = _ ↔ _
  have h1:=Znn l (Zfl x s) (Zil x s h)
  have h2:=Zlf l (Zfl x s)
  have h3:=Zna x s h
  simp only [List.length_cons,List.nodup_cons,List.mem_cons,forall_eq_or_imp]
  by_cases hx:x ∈ s
  ·rw [if_pos hx] at h3
   constructor
   ·intro h; omega
   ·intro h; exact absurd hx h.2.1
  ·rw [if_neg hx] at h3
   rw [show s.length + (l.length + 1) = (Zfl x s).length + l.length by omega,h1]
   simp only [ZfY]
   constructor
   ·rintro ⟨h4,h5⟩
    exact ⟨⟨fun hm=>h5 x hm (.inr rfl),h4⟩,hx,fun a ha hs=>h5 a ha (.inl hs)⟩
   ·rintro ⟨⟨h4,h5⟩,h6,h7⟩
    exact ⟨h5,fun a ha=>by
     rintro (h8 | rfl)
     ·exact h7 a ha h8
     ·exact h4 ha⟩
theorem Zsq (s l m:List Int):Zlb s (l ++ m) = Zlb (Zlb s l) m:=List.foldl_append
section
variable {R:Type} (N:Nat) {fq:Fl}
theorem Zed (s:List Int):(intsV s).map V.noOwn = intsV s:=by unfold intsV; rw [List.map_map]; rfl
theorem Zc0 (s:List Int) (j:Nat):(intsV s).take j = intsV (s.take j):=by unfold intsV; rw [List.map_take]
theorem ZfK (s:List Int) (j:Nat):(intsV s).drop j = intsV (s.drop j):=by unfold intsV; rw [List.map_drop]
theorem ZgV (s t:List Int):intsV s ++ intsV t = intsV (s ++ t):=by unfold intsV; rw [List.map_append]
theorem Zs7 (es:List V):Zjd .sh es = true:=rfl
theorem Zuw {s:List Int} (hs:s.length ≤ 1048576) (hN:1048580 < N) (x:Int) (k:List V → Option R):Zs4 N (intsV s) .sh x k = k (intsV (Zfl x s)):=by
 rw [Zol]
 unfold ZkB
 have hx1:([.int .i64 x]:List V) = intsV [x]:=rfl
 have hJ:=Zmo x s
 simp only [hx1,ZaD,Fl.noOwn,Zs7,Zaf]
 refine Zb1 (l:=fun n i=>Zdt N (intsV s) .sh x _ n (i:Int)) (len:=Zew x s) (k1:=k (intsV (Zfl x s))) ?_ ?_ (show Zew x s < N by omega)
 ·intro n i hi
  have hil:i < s.length:=by omega
  simp only [Zdt,ZbU,ZaD,Zbo hil,Int.natCast_nonneg,if_true,Int.toNat_natCast,ZbH hil,Zae,ZbD]
  rw [decide_eq_true (Zrn x s i hi),ZaV (i:=i) (by omega)]
 ·intro n
  by_cases hl:Zew x s < s.length
  ·simp only [Zdt,ZbU,ZaD,Zbo hl,Int.natCast_nonneg,if_true,Int.toNat_natCast,ZbH hl,Zae,ZbD]
   rw [decide_eq_false (Zrr x s hl)]
   simp only [Zbo hl,Int.natCast_nonneg,if_true,Int.toNat_natCast,ZbH hl,Zae,ZbD]
   by_cases he:at_ s (Zew x s) = x
   ·rw [Zgv x s hl he,he,beq_self_eq_true]
    rfl
   ·rw [Zgk x s (fun h=>he h.2),beq_false_of_ne he]
    simp only [Zc0,ZfK,Zed,List.drop_zero,List.nil_append,ZgV,ZaD]
    have hle:((Zew x s:Nat):Int) ≤ (s.length:Int):=by omega
    simp only [true_and,hle,if_true]
    repeat rw [if_pos (by (try simp only [List.length_append,List.length_take,List.length_drop,List.length_singleton]); omega)]
    rw [List.take_of_length_le (Nat.le_refl _)]
  ·have hjl:Zew x s = s.length:=by omega
   rw [Zgk x s (fun h=>hl h.1),hjl]
   simp only [Zdt,ZbU,ZaD,Int.lt_irrefl,decide_false]
   simp only [Zc0,ZfK,Zed,List.drop_zero,List.nil_append,ZgV,ZaD,Int.toNat_natCast]
   rw [if_pos (show (0:Int) ≤ (s.length:Int) ∧ (s.length:Int) ≤ (s.length:Int) from ⟨by omega,by omega⟩),List.take_of_length_le (Nat.le_refl _)]
   repeat rw [if_pos (by (try simp only [List.length_append,List.length_take,List.length_drop,List.length_singleton]); omega)]
theorem ZpX (a b c:Int) (k:Bool → Option R):ZoX N a b c k = k (inR a b c):=by
 rw [Zne]
 unfold ZjC inR
 by_cases h:b ≤ a
 ·rw [decide_eq_true (show a ≥ b from h)]; rfl
 ·rw [decide_eq_false (show ¬ a ≥ b from h)]; rfl
def ZfX (r:List Int):Bool:=r.all fun x=>inR x 0 999
theorem ZtR (r:List Int) (p:Int → Bool):r.all p = (List.range' 0 r.length).all fun i=>p (at_ r i):=by
 rw [Bool.eq_iff_iff,Zfh,List.all_eq_true]
 constructor
 ·intro h i hi; exact h _ (at_mem hi)
 ·intro h x hx
  obtain ⟨i,hi,rfl⟩:=List.getElem_of_mem hx
  rw [← Zc7 hi]; exact h i hi
theorem Zur {r:List Int} (hr:r.length ≤ 1048576) (hN:1048576 < N) (f:Fl) (k:Bool → Option R):Zsf N (intsV r) f 0 999 k = k (ZfX r):=by
 rw [ZnA]
 unfold Zkq ZfX
 rw [ZaD,ZtR]
 refine (Zjk (l:=fun n i=>Zev N 0 999 (intsV r) f.noOwn (r.length:Int) (fun _=>k false) (fun _=>k true) n (i:Int)) (len:=r.length) (p:=fun i=>inR (at_ r i) 0 999) (k0:=k false) (k1:=k true) ?_ ?_ (show r.length < N by omega)).trans ?_
 ·intro n i hi _
  simp only [Zev,Zch,Zbo hi,Int.natCast_nonneg,if_true,Int.toNat_natCast,ZbH hi,Zae,ZbD,ZpX]
  rw [ZaV (i:=i) (by omega)]
  cases inR (at_ r i) 0 999 <;> rfl
 ·intro _ n
  simp only [Zev,Zch,Int.lt_irrefl,decide_false]
 ·cases (List.range' 0 r.length).all fun i=>inR (at_ r i) 0 999 <;> rfl
def OkF (f:Fl):Prop:=f.noOwn = .sh
theorem OkF.two {f:Fl} (h:OkF f):f.noOwn.noOwn = .sh:=by
 unfold OkF at h; rw [h]; rfl
theorem OkF.still {f:Fl} (h:OkF f) (x:Option R):ZqJ f x = x:=by
 cases f <;> first | rfl | cases h
def Zdp (d:List (List Int)) (i:Nat):List Int:=(d.drop i).flatten
theorem ZgQ {d:List (List Int)} {i:Nat} (h:i < d.length):Zdp d i = at_ d i ++ Zdp d (i + 1):=by
 unfold Zdp
 rw [List.drop_eq_getElem_cons h,Zc7 h]; rfl
theorem Zpw (d:List (List Int)):∀ (m i:Nat),i + m = d.length → (Zdp d i).length + ZaQ d i = ZaQ d d.length:=by
 intro m
 induction m with
 | zero =>
  intro i hi
  obtain rfl:i = d.length:=by omega
  simp [Zdp]
 | succ m ih =>
  intro i hi
  have:=ih (i + 1) (by omega)
  have e:ZaQ d (i + 1) = ZaQ d i + (at_ d i).length:=rfl
  rw [ZgQ (by omega),List.length_append]
  omega
end
end Go.VM.VL
set_option linter.unusedSimpArgs false
set_option linter.unusedVariables false
namespace Go.VM.VL
section
variable {R:Type} (N:Nat) {fq:Fl}
def Zhm (d:List (List Int)) (i:Nat):Bool:=(d.drop i).all ZfX
theorem Zo2 {d:List (List Int)} {i:Nat} (h:i < d.length):Zhm d i = (ZfX (at_ d i) && Zhm d (i + 1)):=by
 unfold Zhm
 rw [List.drop_eq_getElem_cons h,Zc7 h]; rfl
theorem Zuc {r:List Int} (hN:1048580 < N) (a:List V) (b:Fl) (a2:List V) (b2:Fl) (c d:Int) (g:Fl):∀ (m n i:Nat) (s:List Int) (f:Fl) (t:Nat),i + m = r.length → m < n → r.length ≤ 1048576 → s.length + m ≤ 1048576 → t + m ≤ 1048576 → OkF f →
  ∃ f',OkF f' ∧ ∀ (k0:List V → Fl → Int → Option R),Zd8 N a b a2 b2 c d (intsV r) g (r.length:Int) k0 n (intsV s) f (t:Int) (i:Int) = k0 (intsV (Zlb s (r.drop i))) f' ((t + m:Nat):Int):=by
 intro m
 induction m with
 | zero =>
  intro n i s f t hi hn hr hs ht hf
  obtain ⟨n,rfl⟩:∃ q,n = q + 1:=⟨n - 1,by omega⟩
  obtain rfl:i = r.length:=by omega
  refine ⟨f,hf,fun k0=>?_⟩
  simp only [Zd8,Zce,Int.lt_irrefl,decide_false,List.drop_length]
  rfl
 | succ m ih =>
  intro n i s f t hi hn hr hs ht hf
  obtain ⟨n,rfl⟩:∃ q,n = q + 1:=⟨n - 1,by omega⟩
  have hil:i < r.length:=by omega
  have hp:=Zrd (at_ r i) s
  obtain ⟨f',h1,h2⟩:=ih n (i + 1) (Zfl (at_ r i) s) .sh (t + 1) (by omega) (by omega) hr (by omega) (by omega) rfl
  refine ⟨f',h1,fun k0=>?_⟩
  simp only [Zd8,Zce,Zbo hil,Int.natCast_nonneg,if_true,Int.toNat_natCast,ZbH hil,Zae,ZbD]
  rw [hf.two,Zuw N (by omega) hN,ZaV (i:=i) (by omega),ZaV (i:=t) (by omega),h2 k0,List.drop_eq_getElem_cons hil,← Zc7 hil,show t + 1 + m = t + (m + 1) by omega]
  rfl
theorem Zud {d:List (List Int)} (hN:1048580 < N) (hd:SmallD d) (a:List V) (b g:Fl):∀ (m n i:Nat) (s:List Int) (f:Fl) (t:Nat),i + m = d.length → m < n → s.length + (Zdp d i).length ≤ 1048576 → t + (Zdp d i).length ≤ 1048576 → OkF f →
  (Zhm d i = true → ∃ f',OkF f' ∧ ∀ (k0 k1:List V → Fl → Int → Option R),ZcY N a b (rowsV fq d) g (d.length:Int) k0 k1 n (intsV s) f (t:Int) (i:Int) = k1 (intsV (Zlb s (Zdp d i))) f' ((t + (Zdp d i).length:Nat):Int)) ∧
  (Zhm d i = false → ∃ e f' x,∀ (k0 k1:List V → Fl → Int → Option R),ZcY N a b (rowsV fq d) g (d.length:Int) k0 k1 n (intsV s) f (t:Int) (i:Int) = k0 e f' x):=by
 have hdl:=hd.len
 intro m
 induction m with
 | zero =>
  intro n i s f t hi hn hs ht hf
  obtain ⟨n,rfl⟩:∃ q,n = q + 1:=⟨n - 1,by omega⟩
  obtain rfl:i = d.length:=by omega
  refine ⟨fun _=>⟨f,hf,fun k0 k1=>?_⟩,fun h=>by simp [Zhm] at h⟩
  simp only [ZcY,Zcg,Int.lt_irrefl,decide_false,Zdp,List.drop_length]
  rfl
 | succ m ih =>
  intro n i s f t hi hn hs ht hf
  obtain ⟨n,rfl⟩:∃ q,n = q + 1:=⟨n - 1,by omega⟩
  have hil:i < d.length:=by omega
  have hts:=ZgQ hil
  rw [hts,List.length_append] at hs ht
  have hp:=Zlf (at_ d i) s
  have hrow:=hd.row i hil
  obtain ⟨f1,h1,h2⟩:=Zuc (R:=R) N (r:=at_ d i) hN a b (rowsV fq d) g (d.length:Int) (i:Int) (fq.noOwn.noOwn) (at_ d i).length N 0 s f t (by omega) (by omega) hrow (by omega) (by omega) hf
  obtain ⟨i1,i2⟩:=ih n (i + 1) (Zlb s (at_ d i)) f1 (t + (at_ d i).length) (by omega) (by omega) (by omega) (by omega) h1
  have step:∀ (k0 k1:List V → Fl → Int → Option R),ZcY N a b (rowsV fq d) g (d.length:Int) k0 k1 (n + 1) (intsV s) f (t:Int) (i:Int) =
    if ZfX (at_ d i) then ZcY N a b (rowsV fq d) g (d.length:Int) k0 k1 n (intsV (Zlb s (at_ d i))) f1 ((t + (at_ d i).length:Nat):Int) ((i + 1:Nat):Int) else k0 (intsV s) f (t:Int):=by
   intro k0 k1
   simp only [ZcY,Zcg,Zbo hil,Int.natCast_nonneg,if_true,Int.toNat_natCast,ZbR hil,Zae,Zbl,ZaD,Zur N hrow (show 1048576 < N by omega)]
   cases ZfX (at_ d i) with
   | false=>rfl
   | true =>
    simp only [Bool.not_true,if_true]
    refine (h2 _).trans ?_
    rw [List.drop_zero,ZaV (i:=i) (by omega)]
  rw [Zo2 hil]
  refine ⟨fun h=>?_,fun h=>?_⟩
  ·rw [Bool.and_eq_true] at h
   obtain ⟨f',j1,j2⟩:=i1 h.2
   refine ⟨f',j1,fun k0 k1=>?_⟩
   rw [step,if_pos h.1,j2,hts,Zsq,List.length_append,Nat.add_assoc]
  ·by_cases hb:ZfX (at_ d i) = true
   ·rw [hb,Bool.true_and] at h
    obtain ⟨e,f',x,j2⟩:=i2 h
    exact ⟨e,f',x,fun k0 k1=>by rw [step,if_pos hb,j2]⟩
   ·exact ⟨_,_,_,fun k0 k1=>by rw [step,if_neg hb]⟩
def Zlv (d:List (List Int)):Bool:=Zhm d 0 && (inR (d.length:Int) 1 8 && (decide (d.flatten.length ≤ 60) && decide d.flatten.Nodup))
theorem ZnB {d:List (List Int)} (hd:SmallD d):d.flatten.length ≤ 1048576:=by
 have hsum:=Zpw d d.length 0 (by omega)
 have h0:ZaQ d 0 = 0:=rfl
 have hs:=hd.sum
 rw [h0] at hsum
 unfold ZaQ at hsum
 have e:Zdp d 0 = d.flatten:=rfl
 rw [e] at hsum
 omega
theorem Zri {d:List (List Int)} (hN:1048580 < N) (hd:SmallD d) (f:Fl) (k:Bool → Option R):ZtB N (rowsV fq d) f k = k (Zlv d):=by
 rw [Zn8]
 unfold ZjU Zlv
 rw [Za4]
 have hdl:=hd.len
 have hfl:=ZnB hd
 obtain ⟨h1,h2⟩:=Zud (R:=R) (fq:=fq) N hN hd (rowsV fq d) f f.noOwn d.length N 0 [] (.own 3) 0 (by omega) (by omega) (by
  show 0 + d.flatten.length ≤ _; omega) (by show 0 + d.flatten.length ≤ _; omega) rfl
 cases ht:Zhm d 0 with
 | false =>
  obtain ⟨e,f',x,h3⟩:=h2 ht
  exact h3 _ _
 | true =>
  obtain ⟨f',_,h3⟩:=h1 ht
  refine (h3 _ _).trans ?_
  have hal:=Znn d.flatten [] (by simp [Srt])
  have e0:Zdp d 0 = d.flatten:=rfl
  simp only [ZpX,e0,Nat.zero_add,ZaD,Bool.true_and]
  cases inR (d.length:Int) 1 8 with
  | false=>rfl
  | true =>
   simp only [Bool.true_and]
   by_cases h60:d.flatten.length ≤ 60
   ·rw [decide_eq_true (show (d.flatten.length:Int) ≤ 60 by omega),decide_eq_true h60]
    simp only [Bool.true_and]
    congr 1
    rw [Bool.eq_iff_iff,decide_eq_true_eq,beq_iff_eq]
    simp only [List.length_nil,Nat.zero_add] at hal
    constructor
    ·intro h; exact (hal.1 (by omega)).1
    ·intro h; have:=hal.2 ⟨h,fun x _ hx=>by cases hx⟩; omega
   ·rw [decide_eq_false (show ¬ (d.flatten.length:Int) ≤ 60 by omega),decide_eq_false h60]
    rfl
def Zd2 (d:List (List Int)) (x:Int):Bool:=Zlv d && inR x 0 ((d.length:Int) - 1)
theorem Zpj {d:List (List Int)} (hN:1048580 < N) (hd:SmallD d) (f:Fl) (x:Int) (k:Bool → Option R):Ztr N (rowsV fq d) f x k = k (Zd2 d x):=by
 rw [Zm6]
 unfold Zkl Zd2
 have hdl:=hd.len
 rw [Zri N hN hd,Za4,Zca (by omega) (by omega),ZpX]
 cases Zlv d <;> rfl
theorem Ziz (a b c:Int) (k:Bool → Option R):ZpG N a b c k = k (inR a b c):=by
 rw [ZnL]
 unfold Zkv inR
 by_cases h:b ≤ a
 ·rw [decide_eq_true (show a ≥ b from h)]; rfl
 ·rw [decide_eq_false (show ¬ a ≥ b from h)]; rfl
theorem ZsC (a:Int) (k:Bool → Option R):ZsV N a k = k (inR a 0 999):=by
 rw [ZnM]
 unfold ZkQ
 rw [Ziz]
theorem Zph (f:Fl) (r:List Int):Zjd f (intsV r) = true:=by
 cases f <;> first | rfl | skip
 show (intsV r).all V.plain = true
 rw [List.all_eq_true]; intro v hv
 obtain ⟨e,_,rfl⟩:=List.mem_map.1 hv
 rfl
theorem ZfU {d:List (List Int)} {i:Nat} (h:i < d.length):(d.take (i + 1)).flatten = (d.take i).flatten ++ at_ d i:=by
 rw [List.take_succ_eq_append_getElem h,List.flatten_append,Zc7 h]; simp
theorem Znz {d:List (List Int)}:∀ i,i ≤ d.length → (d.take i).flatten.length = ZaQ d i
 | 0,_=>rfl
 | i + 1,h=>by rw [ZfU (by omega),List.length_append,Znz i (by omega)]; rfl
theorem ZsL {d:List (List Int)} (hN:1048580 < N) (hd:SmallD d) (f:Fl) (k:List V → Option R):ZsX N (rowsV fq d) f k = k (intsV d.flatten):=by
 rw [Zof]
 unfold ZkO
 have hdl:=hd.len
 have hs:=hd.sum
 rw [Za4]
 have hle:∀ i,i ≤ d.length → ZaQ d i ≤ 1048576:=fun i hi=>Nat.le_trans (Ze0 _ hi) hs
 have h1:∀ (k0:Int → Option R),Zds N (rowsV fq d) f (rowsV fq d) f.noOwn (d.length:Int) k0 N 0 0 = k0 ((ZaQ d d.length:Nat):Int):=by
  intro k0
  refine Zb1 (l:=fun n i=>Zds N (rowsV fq d) f (rowsV fq d) f.noOwn (d.length:Int) k0 n ((ZaQ d i:Nat):Int) (i:Int)) (len:=d.length) (k1:=k0 ((ZaQ d d.length:Nat):Int)) ?_ ?_ (show d.length < N by omega)
  ·intro n i hi
   have e:ZaQ d (i + 1) = ZaQ d i + (at_ d i).length:=rfl
   have:=hle (i + 1) (by omega)
   simp only [Zds,Zcj,Zbo hi,Int.natCast_nonneg,if_true,Int.toNat_natCast,ZbR hi,Zae,Zbl,ZaD]
   rw [Zca (x:=(ZaQ d i:Int) + ((at_ d i).length:Int)) (by omega) (by omega),decide_eq_false (by omega),ZaV (i:=i) (by omega)]
   rw [show ((ZaQ d i:Nat):Int) + ((at_ d i).length:Int) = ((ZaQ d (i + 1):Nat):Int) by rw [e]; exact (Int.natCast_add _ _).symm]
  ·intro n
   simp only [Zds,Zcj,Int.lt_irrefl,decide_false]
 rw [h1]
 rw [Zn9]
 unfold Zko
 have:=hle d.length (Nat.le_refl _)
 rw [if_pos ⟨by omega,by omega⟩]
 refine (Zb1 (l:=fun n i=>Zeh N (rowsV fq d) f.noOwn (d.length:Int) (fun e=>k e) n (intsV (d.take i).flatten) (i:Int)) (len:=d.length) (k1:=k (intsV (d.take d.length).flatten)) ?_ ?_ (show d.length < N by omega)).trans ?_
 ·intro n i hi
  have e:ZaQ d (i + 1) = ZaQ d i + (at_ d i).length:=rfl
  have:=hle (i + 1) (by omega)
  simp only [Zeh,Zcf,Zbo hi,Int.natCast_nonneg,if_true,Int.toNat_natCast,ZbR hi,Zae,Zbl,ZaD,Zph,Zaf,Zed,ZgV]
  rw [if_pos (by rw [Znz i (by omega)]; omega),ZaV (i:=i) (by omega),ZfU hi]
 ·intro n
  simp only [Zeh,Zcf,Int.lt_irrefl,decide_false]
 ·rw [List.take_of_length_le (Nat.le_refl _)]
theorem Zov {r:List Int} (hr:r.length ≤ 1048576) (hN:1048576 < N) (f:Fl) (x:Int) (k:Bool → Option R):Zss N (intsV r) f x k = k (decide (x ∈ r)):=by
 rw [ZnK]
 unfold ZkA
 rw [Zog]
 unfold ZkC
 rw [ZaD]
 refine (ZhN (β:=Nat) (l:=fun n i=>Zer N (intsV r) f.noOwn.noOwn x (r.length:Int) _ _ n (i:Int)) (len:=r.length) (q:=fun i=>if x == at_ r i then some i else none) (kb:=fun i=>k true) (k1:=k false) ?_ ?_ (show r.length < N by omega)).trans ?_
 ·intro n i hi _
  simp only [Zer,Zcq,Zbo hi,Int.natCast_nonneg,if_true,Int.toNat_natCast,ZbH hi,Zae,ZbD]
  rw [ZaV (i:=i) (by omega)]
  cases (x == at_ r i) with
  | false=>rfl
  | true =>
   simp only [if_true]
   simp
 ·intro _ n
  simp only [Zer,Zcq,Int.lt_irrefl,decide_false]
  rfl
 ·by_cases h:x ∈ r
  ·rw [decide_eq_true h]
   cases hq:(List.range' 0 r.length).findSome? (fun i=>if x == at_ r i then some i else none) with
   | some i=>rfl
   | none =>
    exfalso
    obtain ⟨i,hi,he⟩:=List.getElem_of_mem h
    have:=ZhB.1 hq i hi
    rw [Zc7 hi,he] at this
    simp at this
  ·rw [decide_eq_false h]
   have:(List.range' 0 r.length).findSome? (fun i=>if x == at_ r i then some i else none) = none:=ZhB.2 fun i hi=>by
    have hne:x ≠ at_ r i:=fun e=>h (e ▸ at_mem hi)
    rw [beq_false_of_ne hne]; rfl
   rw [this]
theorem ZsU (T:List Int):T.Nodup ↔ ∀ i,i < T.length → at_ T i ∉ T.take i:=by
 unfold List.Nodup
 rw [List.pairwise_iff_getElem]
 constructor
 ·intro h i hi hm
  obtain ⟨j,hj,he⟩:=List.getElem_of_mem hm
  have hj2:j < i:=by simp at hj; omega
  rw [List.getElem_take,Zc7 hi] at he
  exact h j i (by omega) hi hj2 he
 ·intro h i j hi hj hij he
  refine h j hj ?_
  rw [Zc7 hj,← he]
  exact List.mem_iff_getElem.2 ⟨i,by simp; omega,List.getElem_take ..⟩
theorem Zor (d:List (List Int)):Zhm d 0 = ZfX d.flatten:=by
 unfold Zhm ZfX
 rw [List.drop_zero]
 induction d with
 | nil=>rfl
 | cons r d ih=>rw [List.all_cons,List.flatten_cons,List.all_append,ih]
theorem ZlY {d:List (List Int)} (hN:1048580 < N) (hd:SmallD d) (f:Fl) (k:Bool → Option R):Ztx N (rowsV fq d) f k = k (Zlv d):=by
 rw [Zoi]
 unfold Zjv Zlv
 have hfl:=ZnB hd
 rw [ZsL N hN hd,Za4,Ziz,ZaD,Zor]
 cases inR (d.length:Int) 1 8 with
 | false=>simp
 | true =>
  simp only [Bool.not_true,Bool.true_and]
  by_cases h60:d.flatten.length ≤ 60
  ·rw [decide_eq_false (show ¬ (d.flatten.length:Int) > 60 by omega),decide_eq_true h60]
   simp only [Bool.true_and]
   let T:=d.flatten
   refine (Zjk (l:=fun n i=>Zef N (intsV d.flatten) (intsV d.flatten) (d.flatten.length:Int) (fun _=>k false) (fun _=>k true) n (i:Int)) (len:=d.flatten.length) (p:=fun i=>inR (at_ d.flatten i) 0 999 && !decide (at_ d.flatten i ∈ d.flatten.take i)) (k0:=k false) (k1:=k true) ?_ ?_ (show d.flatten.length < N by omega)).trans ?_
   ·intro n i hi _
    simp only [Zef,Zcl,Zbo hi,Int.natCast_nonneg,if_true,Int.toNat_natCast,ZbH hi,Zae,ZbD,ZsC,ZaD,List.drop_zero,Zc0]
    rw [Zov N (show (d.flatten.take i).length ≤ 1048576 by rw [List.length_take]; omega) (by omega),if_pos ⟨trivial,show (i:Int) ≤ (d.flatten.length:Int) by omega⟩,ZaV (i:=i) (by omega)]
    cases inR (at_ d.flatten i) 0 999 <;> cases decide (at_ d.flatten i ∈ d.flatten.take i) <;> rfl
   ·intro _ n
    simp only [Zef,Zcl,Int.lt_irrefl,decide_false]
   ·have e:((List.range' 0 d.flatten.length).all fun i=>inR (at_ d.flatten i) 0 999 && !decide (at_ d.flatten i ∈ d.flatten.take i)) = (ZfX d.flatten && decide d.flatten.Nodup):=by
     unfold ZfX
     rw [ZtR,Bool.eq_iff_iff,Bool.and_eq_true,Zfh,Zfh,decide_eq_true_eq,ZsU]
     constructor
     ·intro h
      refine ⟨fun i hi=>?_,fun i hi=>?_⟩
      ·have:=h i hi; rw [Bool.and_eq_true] at this; exact this.1
      ·have:=h i hi; rw [Bool.and_eq_true] at this; simpa using this.2
     ·rintro ⟨h1,h2⟩ i hi
      rw [Bool.and_eq_true]
      exact ⟨h1 i hi,by simpa using h2 i hi⟩
    rw [e]
    cases (ZfX d.flatten && decide d.flatten.Nodup) <;> rfl
  ·rw [decide_eq_true (show (d.flatten.length:Int) > 60 by omega),decide_eq_false h60]
   simp
theorem Zo5 {d:List (List Int)} (hN:1048580 < N) (hd:SmallD d) (f:Fl) (x:Int) (k:Bool → Option R):ZsF N (rowsV fq d) f x k = k (Zd2 d x):=by
 rw [Zon]
 unfold ZjO Zd2
 have hdl:=hd.len
 rw [ZlY N hN hd,Za4,Zca (by omega) (by omega),Ziz]
 cases Zlv d <;> rfl
theorem ZgL {r:List Int} (hr:r.length ≤ 1048576) (k:Nat → List V → Option R):ZhX 8 1 (intsV r) k = k r.length (intsV r):=by
 unfold ZhX
 rw [ZaD,if_pos (by omega),ZcI]
 have:((intsV r).all fun e=>Nat.beq e.cells.length 1) = true:=by
  rw [List.all_eq_true]; intro v hv
  obtain ⟨e,_,rfl⟩:=List.mem_map.1 hv
  rfl
 rw [this]; rfl
theorem ZuZ {r:List Int} (hr:r.length ≤ 1048576) (f:Fl) (k:Nat → List V → Option R):Zsg N (intsV r) f k = k r.length (intsV r):=by
 rw [Zob]; unfold Zj2; exact ZgL hr k
theorem ZtZ {r:List Int} (hr:r.length ≤ 1048576) (f:Fl) (k:Nat → List V → Option R):Zs5 N (intsV r) f k = k r.length (intsV r):=by
 rw [Zm7]; unfold ZkT; exact ZgL hr k
theorem ZhH {d:List (List Int)} {i:Nat} (h:i < d.length):Zba (d.take i) ++ ([.uni uI 1 (intsV (at_ d i))]:List V) = Zba (d.take (i + 1)):=by
 unfold Zba
 rw [List.take_succ_eq_append_getElem h,List.map_append,Zc7 h]; rfl
theorem Zd3 {d:List (List Int)} {i:Nat} (h:i ≤ d.length):(Zba (d.take i)).length = i:=by simp [Zba]; omega
theorem Zst {d:List (List Int)} (hN:1048580 < N) (hd:SmallD d) (f:Fl) (k:Nat → List V → Option R):Ztm N (rowsV fq d) f k = k d.length (Zba d):=by
 rw [ZnS]
 unfold ZjW
 have hdl:=hd.len
 rw [Za4]
 refine (Zb1 (l:=fun n i=>Zeg N (rowsV fq d) f.noOwn (d.length:Int) _ n i (i:Int) (Zba (d.take i))) (len:=d.length) (k1:=k d.length (Zba (d.take d.length))) ?_ ?_ (show d.length < N by omega)).trans ?_
 ·intro n i hi
  simp only [Zeg,Zci,Zbo hi,Int.natCast_nonneg,if_true,Int.toNat_natCast,ZbR hi,Zae,Zbl,ZuZ N (hd.row i hi),Zdo _ (ZaD _),ZaD,Nat.zero_add,Nat.le_refl,decide_true,ZcI,ZhH hi,ZcL,ZcD,Bool.and_true,Zaf]
  rw [if_pos ⟨trivial,(Zd3 (by omega)).symm,by omega⟩,ZaV (i:=i) (by omega)]
 ·intro n
  simp only [Zeg,Zci,Int.lt_irrefl,decide_false,ZcL,ZcD,ZdI,Bool.and_true,Zaf]
 ·rw [List.take_of_length_le (Nat.le_refl _)]
theorem Zo8 {d:List (List Int)} (hN:1048580 < N) (hd:SmallD d) (f:Fl) (k:Nat → List V → Option R):ZsO N (rowsV fq d) f k = k d.length (Zba d):=by
 rw [Znk]
 unfold ZjR
 have hdl:=hd.len
 rw [Za4]
 refine (Zb1 (l:=fun n i=>Zel N (rowsV fq d) f.noOwn (d.length:Int) _ n i (i:Int) (Zba (d.take i))) (len:=d.length) (k1:=k d.length (Zba (d.take d.length))) ?_ ?_ (show d.length < N by omega)).trans ?_
 ·intro n i hi
  simp only [Zel,Zcu,Zbo hi,Int.natCast_nonneg,if_true,Int.toNat_natCast,ZbR hi,Zae,Zbl,ZtZ N (hd.row i hi),Zdo _ (ZaD _),ZaD,Nat.zero_add,Nat.le_refl,decide_true,ZcI,ZhH hi,ZcL,ZcD,Bool.and_true,Zaf]
  rw [if_pos ⟨trivial,(Zd3 (by omega)).symm,by omega⟩,ZaV (i:=i) (by omega)]
 ·intro n
  simp only [Zel,Zcu,Int.lt_irrefl,decide_false,ZcL,ZcD,ZdI,Bool.and_true,Zaf]
 ·rw [List.take_of_length_le (Nat.le_refl _)]
end
end Go.VM.VL
set_option linter.unusedSimpArgs false
set_option linter.unusedVariables false
namespace Go.VM.VL
section
variable {R:Type} (N:Nat) {fq:Fl}
def ZtH (d:List (List Int)) (a:Nat):List (List Int):=Zai d a ((at_ d a).take ((at_ d a).length - 1))
theorem Ze3 (d:List (List Int)) (a:Nat):(ZtH d a).length = d.length:=by unfold ZtH; rw [ZbM]
theorem ZhL {g h:Nat → Nat}:∀ {n:Nat},(∀ i,i < n → g i ≤ h i) → Zb2 g n ≤ Zb2 h n
 | 0,_=>Nat.le_refl _
 | n + 1,H=>by
  have h1:=ZhL (g:=g) (h:=h) (n:=n) fun i hi=>H i (by omega)
  have h2:=H n (by omega)
  simp only [Zb2]; omega
theorem ZoJ {d:List (List Int)} {a:Nat} (ha:a < d.length) (hd:SmallD d):SmallD (ZtH d a):=by
 have hrow:∀ i,i < d.length → (at_ (ZtH d a) i).length ≤ (at_ d i).length:=fun i hi=>by
  unfold ZtH
  rw [ZcS ha]
  split
  ·rename_i h; subst h; rw [List.length_take]; omega
  ·exact Nat.le_refl _
 refine ⟨by rw [Ze3]; exact hd.len,fun i hi=>?_,?_⟩
 ·rw [Ze3] at hi
  exact Nat.le_trans (hrow i hi) (hd.row i hi)
 ·rw [Ze3]
  exact Nat.le_trans (ZhL fun i hi=>hrow i hi) hd.sum
theorem ZgY {d:List (List Int)} {w:Int} (h:Zd2 d w = true):w = ((w.toNat:Nat):Int) ∧ w.toNat < d.length:=by
 unfold Zd2 at h
 rw [Bool.and_eq_true] at h
 have:=Zu0.1 h.2
 exact ⟨by omega,by omega⟩
def Zue (d:List (List Int)) (w:Int):Option (List (List Int) × Int) :=
 if Zd2 d w && !(((at_ d w.toNat).length:Int) == 0) then some (ZtH d w.toNat,at_ (at_ d w.toNat) ((at_ d w.toNat).length - 1)) else none
def Zhe (d:List (List Int)) (w:Int):List (List Int):=match Zue d w with | some r=>r.1 | none=>[]
def Zwu (d:List (List Int)) (w:Int):Int:=match Zue d w with | some r=>r.2 | none=>0
theorem Zo4 {d:List (List Int)} (hd:SmallD d) (w:Int):SmallD (Zhe d w):=by
 unfold Zhe Zue
 by_cases h:(Zd2 d w && !(((at_ d w.toNat).length:Int) == 0)) = true
 ·rw [if_pos h]
  rw [Bool.and_eq_true] at h
  exact ZoJ (ZgY h.1).2 hd
 ·rw [if_neg h]
  exact ⟨by simp,fun i hi=>by simp at hi,by simp [Zb2]⟩
theorem ZqC (r:List Int):(intsV r).take r.length = intsV r:=List.take_of_length_le (by rw [ZaD]; exact Nat.le_refl _)
theorem ZgG:∀ r:List Int,(ZdG (intsV r)).isSome = true
 | []=>rfl
 | x :: r=>by
  have:=ZgG r
  show (match ZdG (intsV r) with | some xs=>some (x :: xs) | none=>none:Option (List Int)).isSome = true
  cases h:ZdG (intsV r) with
  | none=>rw [h] at this; cases this
  | some xs=>rfl
theorem cU (es:List V) (K:V → List V → Option R):ZbE (V.uni uI 1 es).cells K = K (.uni uI 1 es) []:=rfl
theorem cA (o a b n:Nat) (K:V → List V → Option R):ZbE (V.arr o a b n).cells K = K (.arr o a b n) []:=rfl
theorem cI (n:Int) (K:V → List V → Option R):ZbE (V.int .i64 n).cells K = K (.int .i64 n) []:=rfl
theorem Zwx {d:List (List Int)} (hN:1048580 < N) (hd:SmallD d) (f:Fl) (w:Int) (k:Nat → Int → Bool → List V → Option R) :
  Zsr N (rowsV fq d) f w k = k (Zhe d w).length (Zwu d w) (Zue d w).isSome (Zba (Zhe d w)):=by
 rw [Znr]
 unfold ZkV Zhe Zwu Zue
 have hdl:=hd.len
 rw [Zpj N hN hd]
 cases ha:Zd2 d w with
 | false=>rfl
 | true =>
  obtain ⟨hw,hwl⟩:=ZgY ha
  have hrow:=hd.row _ hwl
  have h0:(0:Int) ≤ w:=by omega
  simp only [Bool.not_true,h0,if_true,ZbR hwl,Zae,Zbl,ZaD,Bool.true_and]
  cases he:(((at_ d w.toNat).length:Int) == 0) with
  | true=>rfl
  | false =>
   have hpos:0 < (at_ d w.toNat).length:=by
    have:=ne_of_beq_false he
    omega
   have hil':w.toNat < (Zba d).length:=by rw [Zc6]; exact hwl
   have hc:(w < (d.length:Int)) = True:=eq_true (by omega)
   have hw1:IntKind.i64.wrap (((at_ d w.toNat).length:Int) - 1) = (((at_ d w.toNat).length - 1:Nat):Int):=by rw [Zca (by omega) (by omega)]; omega
   have hc2:((((at_ d w.toNat).length - 1:Nat):Int) ≤ ((at_ d w.toNat).length:Int)) = True:=eq_true (by omega)
   have hle:(at_ d w.toNat).length - 1 ≤ (at_ d w.toNat).length:=by omega
   have hlt:(at_ d w.toNat).length - 1 < (at_ d w.toNat).length:=by omega
   have e4:Zai (Zba d) w.toNat (.uni uI 1 (intsV ((at_ d w.toNat).take ((at_ d w.toNat).length - 1)))) = Zba (ZtH d w.toNat):=Zfv d _ _
   simp only [Zst N hN hd,h0,hc,and_self,true_and,Int.natCast_nonneg,List.take_length,Int.le_refl,Bool.and_self,cU,cA,cI,hw1,hc2,if_true,Nat.zero_add,Int.toNat_natCast,ZbR hwl,ZeL hwl,Zae,Zbl,ZtU,Zlz,Zh8,ZsG,ZuJ,ZaD,ZdD,Zej,hil',hle,decide_true,List.drop_zero,Zc0,ZcI,Zaf,Int.natCast_nonneg,ZbH hlt,ZbD,e4,ZdI,Bool.and_true,Bool.not_false,Ze3,Option.isSome_some]
theorem Zxf {d:List (List Int)} (hN:1048580 < N) (hd:SmallD d) (f:Fl) (w:Int) (k:Nat → Int → Bool → List V → Option R) :
  ZpU N (rowsV fq d) f w k = k (Zhe d w).length (Zwu d w) (Zue d w).isSome (Zba (Zhe d w)):=by
 rw [ZnH]
 unfold Zk1
 rw [Zoo]
 unfold ZjQ Zhe Zwu Zue
 have hdl:=hd.len
 rw [Zo5 N hN hd]
 cases ha:Zd2 d w with
 | false=>rfl
 | true =>
  obtain ⟨hw,hwl⟩:=ZgY ha
  have hrow:=hd.row _ hwl
  have h0:(0:Int) ≤ w:=by omega
  simp only [Bool.not_true,h0,if_true,ZbR hwl,Zae,Zbl,ZaD,Bool.true_and]
  cases he:(((at_ d w.toNat).length:Int) == 0) with
  | true=>rfl
  | false =>
   have hpos:0 < (at_ d w.toNat).length:=by
    have:=ne_of_beq_false he
    omega
   have hil':w.toNat < (Zba d).length:=by rw [Zc6]; exact hwl
   have hc:(w < (d.length:Int)) = True:=eq_true (by omega)
   have hw1:IntKind.i64.wrap (((at_ d w.toNat).length:Int) - 1) = (((at_ d w.toNat).length - 1:Nat):Int):=by rw [Zca (by omega) (by omega)]; omega
   have hw2:IntKind.i64.wrap ((((at_ d w.toNat).length - 1:Nat):Int) + 1) = (((at_ d w.toNat).length:Nat):Int):=by rw [Zca (by omega) (by omega)]; omega
   have hc2:((((at_ d w.toNat).length - 1:Nat):Int) < ((at_ d w.toNat).length:Int)) = True:=eq_true (by omega)
   have hlt:(at_ d w.toNat).length - 1 < (at_ d w.toNat).length:=by omega
   have d1:decide (0 < (at_ d w.toNat).length) = true:=decide_eq_true hpos
   have d2:decide ((((at_ d w.toNat).length - 1:Nat):Int) ≤ ((at_ d w.toNat).length:Int)) = true:=decide_eq_true (by omega)
   have d3:decide ((0:Int) ≤ (((at_ d w.toNat).length - 1:Nat):Int)) = true:=decide_eq_true (by omega)
   have s1:(at_ d w.toNat).length - ((at_ d w.toNat).length - ((at_ d w.toNat).length - 1)) = (at_ d w.toNat).length - 1:=by omega
   have e5:intsV ((at_ d w.toNat).take ((at_ d w.toNat).length - 1)) ++ intsV ((at_ d w.toNat).drop (at_ d w.toNat).length) = intsV ((at_ d w.toNat).take ((at_ d w.toNat).length - 1)):=by rw [List.drop_length]; simp [intsV]
   have e6:((at_ d w.toNat).take ((at_ d w.toNat).length - 1)).length = (at_ d w.toNat).length - 1:=by rw [List.length_take]; omega
   have e7:((at_ d w.toNat).take ((at_ d w.toNat).length - 1)).take ((at_ d w.toNat).length - 1) = (at_ d w.toNat).take ((at_ d w.toNat).length - 1):=List.take_of_length_le (by rw [e6]; exact Nat.le_refl _)
   have e4:Zai (Zba d) w.toNat (.uni uI 1 (intsV ((at_ d w.toNat).take ((at_ d w.toNat).length - 1)))) = Zba (ZtH d w.toNat):=Zfv d _ _
   simp only [Zo8 N hN hd,h0,hc,and_self,true_and,Int.natCast_nonneg,List.take_length,Int.le_refl,Bool.and_self,cU,cA,cI,hw1,hw2,hc2,if_true,Nat.zero_add,Int.toNat_natCast,ZeL hwl,Zae,ZtU,Zlz,ZqG,Zh8,ZsG,ZuJ,ZaD,ZdD,Zej,hil',Zkm,Nat.le_refl,decide_true,List.drop_zero,ZqC,ZcI,Zaf,ZbH hlt,ZbD,Nat.beq_refl,ZgG,d1,d2,d3,Bool.and_true,Zc0,ZfK,e5,s1,e6,e7,e4,ZdI,Bool.not_false,Ze3,Option.isSome_some]
theorem law_FnExactPopFrom {d:List (List Int)} (hl:DkOk d) (f:Fl) (w:Int) (k:Bool → Option R):Zg2 1048600 (rowsV fq d) f w k = k true:=by
 unfold Zg2 ZqT
 rw [Zqa 1048600 hl (by omega) _ _ (by omega) (by omega)]
 by_cases h2:(dSz d:Int) ≤ 1048576
 ·have hs:=SmallD.of (d:=d) (by omega)
  have hN:1048580 < 1048600:=by omega
  have hN1:1048576 < 1048600:=by omega
  rw [ZpV h2,decide_eq_false (by omega)]
  have hp:=Zo4 hs w
  have hsum:ZaQ d d.length ≤ 1048576:=hs.sum
  have hpsum:ZaQ (Zhe d w) (Zhe d w).length ≤ 1048576:=hp.sum
  obtain ⟨M,m1,m1b,m2,m3⟩:=Zgy 1048600 hN1 1 d hs.len hs.row (by omega)
  obtain ⟨S,s1,s1b,s2,s3⟩:=Zgy 1048600 hN1 1 (Zhe d w) hp.len hp.row (by omega)
  have m3':∀ {R:Type} (k:Int → List V → Option R),ZmQ 1048600 d.length 1 (Zba d) k = k ((1 + ZaQ d d.length:Nat):Int) (Zba M):=m3
  have s3':∀ {R:Type} (k:Int → List V → Option R),ZmQ 1048600 (Zhe d w).length 1 (Zba (Zhe d w)) k = k ((1 + ZaQ (Zhe d w) (Zhe d w).length:Nat):Int) (Zba S):=s3
  have hsame:∀ m,m ≤ (Zhe d w).length → ZaQ S m = ZaQ (Zhe d w) m:=fun m hm=>Zec fun j hj=>s1b j (by omega)
  have hh:∀ (fq f:Fl) {R:Type} (k:Int → Option R),Zpc 1048600 (rowsV fq S) f 1 k = k ((1 + ZaQ (Zhe d w) (Zhe d w).length:Nat):Int):=fun fq f R k=>by
   have:=ZmG (fq:=fq) 1048600 hN1 1 S (by rw [s1]; exact hp.len) (fun j hj=>by rw [s1] at hj; rw [s1b j hj]; exact hp.row j hj) (by rw [s1,hsame _ (Nat.le_refl _)]; omega)
    (fun j hj=>by rw [s1] at hj; rw [hsame j (by omega)]; exact s2 j hj) f k
   rw [s1,hsame _ (Nat.le_refl _)] at this
   exact this
  have y0:decide (((1 + ZaQ d d.length:Nat):Int) < 0) = false:=decide_eq_false (by omega)
  have z0:decide (((1 + ZaQ (Zhe d w) (Zhe d w).length:Nat):Int) < 0) = false:=decide_eq_false (by omega)
  simp only [ZqE 1048600 hs hN1,Zqj,ZqW,Zdo _ (Za4 d),Zdo _ (Za4 (Zhe d w)),Zdo _ ((Za4 S).trans s1),Zrb,Za4,s1,ZcD,Bool.and_true,Nat.zero_add,Nat.le_refl,decide_true,Zaf,
   Zwx 1048600 hN hs,Zxf 1048600 hN hs,Zj3 1048600 hs.len hs.row hN1,Zj3 1048600 hp.len hp.row hN1,m3',s3',hh,y0,z0,bne_self_eq_false,beq_self_eq_true,Bool.not_true]
 ·rw [Zms h2]
  rfl
end
end Go.VM.VL
