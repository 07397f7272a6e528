/- The plain laws of the printed functions, from the bottom up to the law itself. -/
import Derived.Test.YtkchbabkbpcncaaY1
import Derived.Test.YtkchbabkbpcncaaTLib
set_option linter.unusedSimpArgs false
set_option linter.unusedVariables false
namespace Go.VM.VL
section loops
variable {R β:Type} {l:Nat → Nat → Option R} {len:Nat} {k0 k1:Option R}
theorem Zrj (hs:∀ n i,i < len → l (n + 1) i = l n (i + 1)) (he:∀ n,l (n + 1) len = k1):∀ (d n i:Nat),i + d = len → d < n → l n i = k1:=by
 intro d
 induction d with
 | zero =>
  intro n i hi hn
  obtain ⟨n,rfl⟩:∃ m,n = m + 1:=⟨n - 1,by omega⟩
  obtain rfl:i = len:=by omega
  exact he n
 | succ d ih =>
  intro n i hi hn
  obtain ⟨n,rfl⟩:∃ m,n = m + 1:=⟨n - 1,by omega⟩
  rw [hs n i (by omega)]
  exact ih n (i + 1) (by omega) (by omega)
theorem Zb3 (hs:∀ n i,i < len → l (n + 1) i = l n (i + 1)) (he:∀ n,l (n + 1) len = k1) {N:Nat} (hN:len < N):l N 0 = k1 :=
 Zrj hs he len N 0 (by omega) hN
theorem Zm0 {q:Nat → Option β} {kb:β → Option R} (hs:∀ n i,i < len → (∀ j,j < i → q j = none) → l (n + 1) i = match q i with | some b=>kb b | none=>l n (i + 1)) (he:(∀ j,j < len → q j = none) → ∀ n,l (n + 1) len = k1) :
  ∀ (d n i:Nat),i + d = len → d < n → (∀ j,j < i → q j = none) → l n i = match (List.range' i d).findSome? q with | some b=>kb b | none=>k1:=by
 intro d
 induction d with
 | zero =>
  intro n i hi hn hq
  obtain ⟨n,rfl⟩:∃ m,n = m + 1:=⟨n - 1,by omega⟩
  obtain rfl:i = len:=by omega
  rw [he hq n]; rfl
 | succ d ih =>
  intro n i hi hn hq
  obtain ⟨n,rfl⟩:∃ m,n = m + 1:=⟨n - 1,by omega⟩
  rw [hs n i (by omega) hq,List.range'_succ,List.findSome?_cons]
  cases h:q i with
  | none=>exact ih n (i + 1) (by omega) (by omega) fun j hj=>(by
    rcases Nat.lt_or_ge j i with h2 | h2
    ·exact hq j h2
    ·obtain rfl:j = i:=by omega
     exact h)
  | some b=>rfl
theorem Zij {q:Nat → Option β} {kb:β → Option R} (hs:∀ n i,i < len → (∀ j,j < i → q j = none) → l (n + 1) i = match q i with | some b=>kb b | none=>l n (i + 1)) (he:(∀ j,j < len → q j = none) → ∀ n,l (n + 1) len = k1) {N:Nat} (hN:len < N) :
  l N 0 = match (List.range' 0 len).findSome? q with | some b=>kb b | none=>k1 :=
 Zm0 hs he len N 0 (by omega) hN fun j hj=>absurd hj (by omega)
theorem Zgy {p:Nat → Bool} (hs:∀ n i,i < len → (∀ j,j < i → p j = true) → l (n + 1) i = if p i then l n (i + 1) else k0) (he:(∀ j,j < len → p j = true) → ∀ n,l (n + 1) len = k1) {N:Nat} (hN:len < N) :
  l N 0 = if (List.range' 0 len).all p then k1 else k0:=by
 have:=Zij (l:=l) (len:=len) (k1:=k1) (q:=fun i=>if p i then none else some ()) (kb:=fun _=>k0)
  (fun n i hi hq=>by
   rw [hs n i hi fun j hj=>by
    have:=hq j hj
    cases hp:p j with
    | true=>rfl
    | false=>simp [hp] at this]
   cases p i <;> rfl)
  (fun hq n=>he (fun j hj=>by
   have:=hq j hj
   cases hp:p j with
   | true=>rfl
   | false=>simp [hp] at this) n) hN
 rw [this]
 generalize List.range' 0 len = L
 clear this hs he
 induction L with
 | nil=>rfl
 | cons a L ih =>
  rw [List.findSome?_cons,List.all_cons]
  cases hp:p a with
  | false=>simp
  | true=>simpa using ih
theorem Zfb {p:Nat → Bool} {len:Nat}:(List.range' 0 len).all p = true ↔ ∀ i,i < len → p i = true:=by
 rw [List.all_eq_true]
 exact ⟨fun h i hi=>h i (by rw [List.mem_range']; exact ⟨i,hi,by omega⟩),fun h i hi=>by
  rw [List.mem_range'] at hi
  obtain ⟨j,hj,rfl⟩:=hi
  exact h _ (by omega)⟩
theorem ZhT {q:Nat → Option β} {len:Nat}:(List.range' 0 len).findSome? q = none ↔ ∀ i,i < len → q i = none:=by
 rw [List.findSome?_eq_none_iff]
 exact ⟨fun h i hi=>h i (by rw [List.mem_range']; exact ⟨i,hi,by omega⟩),fun h i hi=>by
  rw [List.mem_range'] at hi
  obtain ⟨j,hj,rfl⟩:=hi
  exact h _ (by omega)⟩
end loops
theorem ZjD {α β:Type} (f:α → β) (l:List α) (i:Nat):nth (l.map f) i = (nth l i).map f:=by rw [Zad,Zad,List.getElem?_map]
theorem Zks {α β:Type} (f:α → β) (l:List α) (i:Nat) (v:α):Zao (l.map f) i (f v) = (Zao l i v).map f:=by rw [ZaM,ZaM,List.map_set]
theorem Znp {α:Type} {l:List α} {i:Nat} (h:i < l.length):nth l i = some l[i]:=by rw [Zad,List.getElem?_eq_getElem h]
theorem ZdL {α:Type} {l:List α} {i:Nat} {v:α} (h:i < l.length):nth (Zao l i v) i = some v:=by rw [Zad,ZaM,List.getElem?_set_self h]
theorem Zgb {α:Type} {f:α → Option α}:∀ {l:List α},(∀ v ∈ l,f v = some v) → ZaJ f l = some l
 | [],_=>rfl
 | a :: l,h=>by
  simp only [ZaJ,h a (by simp),Zgb (l:=l) fun v hv=>h v (by simp [hv])]
def inR (a b c:Int):Bool:=decide (b ≤ a) && decide (a ≤ c)
theorem Zq7 {a b c:Int}:inR a b c = true ↔ b ≤ a ∧ a ≤ c:=by simp [inR]
theorem ZaT {i:Nat} (h:i < 9223372036854775807):IntKind.i64.wrap ((i:Int) + 1) = ((i + 1:Nat):Int):=by
 rw [Zdk (by omega) (by omega)]; rfl
theorem Zbk {i n:Nat} (h:i < n):decide ((i:Int) < (n:Int)) = true:=decide_eq_true (by omega)
def intsV (l:List Int):List V:=l.map (V.int .i64)
def at_ {α:Type} [Inhabited α] (l:List α) (i:Nat):α:=l.getD i default
theorem ZcL {α:Type} [Inhabited α] {l:List α} {i:Nat} (h:i < l.length):at_ l i = l[i]:=by
 simp [at_,List.getD_eq_getElem?_getD,List.getElem?_eq_getElem h]
theorem at_mem {α:Type} [Inhabited α] {l:List α} {i:Nat} (h:i < l.length):at_ l i ∈ l:=by rw [ZcL h]; exact List.getElem_mem h
theorem ZaA (l:List Int):(intsV l).length = l.length:=by simp [intsV]
instance:Inhabited Int:=⟨0⟩
variable {R:Type}
theorem Zaf (v:V) (k:V → Option R):ZbC (some v) k = k v:=rfl
theorem ZbD (n:Int) (k:Int → Option R):asInt .i64 (.int .i64 n) k = k n:=rfl
theorem ZbI {l:List Int} {i:Nat} (h:i < l.length):nth (intsV l) i = some (.int .i64 (at_ l i)):=by rw [intsV,ZjD,Znp h,ZcL h]; rfl
def ZcA (g:Nat → Nat):Nat → Nat
 | 0=>0
 | n + 1=>ZcA g n + g n
theorem ZeR (g:Nat → Nat):∀ {a b:Nat},a ≤ b → ZcA g a ≤ ZcA g b:=by
 intro a b h
 induction b with
 | zero =>
  obtain rfl:a = 0:=by omega
  exact Nat.le_refl _
 | succ b ih =>
  rcases Nat.lt_or_ge a (b + 1) with h2 | h2
  ·exact Nat.le_trans (ih (by omega)) (Nat.le_add_right _ _)
  ·obtain rfl:a = b + 1:=by omega
   exact Nat.le_refl _
theorem Zo7 (g:Nat → Nat) {i n:Nat} (h:i < n):g i ≤ ZcA g n:=Nat.le_trans (Nat.le_add_left _ _) (ZeR g (a:=i + 1) h)
def left (x:Int) (n:Nat):Int:=if (n:Int) ≤ x then x - n else -1
theorem ZsF {x:Int} {n:Nat} (h:(n:Int) ≤ x):left x n = x - n:=if_pos h
theorem Zms {x:Int} {n:Nat} (h:¬ (n:Int) ≤ x):left x n = -1:=if_neg h
def Zdi (xs:List V) (z:V) (i:Nat):List V:=xs.take i ++ List.replicate (xs.length - i) z
theorem Zsl (xs:List V) (z:V) {i:Nat} (h:i ≤ xs.length):(Zdi xs z i).length = xs.length:=by
 simp only [Zdi,List.length_append,List.length_take,List.length_replicate]; omega
theorem Zkp (xs:List V) (z:V) {i:Nat} (h:i < xs.length):nth (Zdi xs z i) i = some z:=by
 rw [Zad,Zdi,List.getElem?_append_right (by simp only [List.length_take]; omega)]
 rw [List.getElem?_replicate,if_pos (by simp; omega)]
theorem ZkL (xs:List V) (z v:V) {i:Nat} (h:i < xs.length) (hv:nth xs i = some v):Zao (Zdi xs z i) i v = Zdi xs z (i + 1):=by
 have hv':xs[i]? = some v:=by rw [← Zad]; exact hv
 rw [ZaM]
 apply List.ext_getElem?
 intro j
 rw [List.getElem?_set]
 have hlen:=Zsl xs z (i:=i) (by omega)
 have hT:(xs.take i).length = i:=by simp; omega
 have hT2:(xs.take (i + 1)).length = i + 1:=by simp; omega
 by_cases hij:i = j
 ·subst hij
  rw [if_pos rfl,if_pos (by omega)]
  unfold Zdi
  rw [List.getElem?_append_left (by omega),List.getElem?_take_of_lt (by omega),hv']
 ·rw [if_neg hij]
  unfold Zdi
  rcases Nat.lt_or_ge j i with h2 | h2
  ·rw [List.getElem?_append_left (by omega),List.getElem?_append_left (by omega),List.getElem?_take_of_lt (by omega),List.getElem?_take_of_lt (by omega)]
  ·rw [List.getElem?_append_right (by omega),List.getElem?_append_right (by omega),List.getElem?_replicate,List.getElem?_replicate,hT,hT2]
   by_cases h3:j - i < xs.length - i
   ·rw [if_pos h3,if_pos (by omega)]
   ·rw [if_neg h3,if_neg (by omega)]
theorem ZhM (xs:List V) (z:V):Zdi xs z 0 = List.replicate xs.length z:=by simp [Zdi]
theorem Zlw (xs:List V) (z:V):Zdi xs z xs.length = xs:=by simp [Zdi]
theorem map_id {f:V → V} {l:List V} (h:∀ v ∈ l,f v = v):l.map f = l:=by
 conv=>rhs; rw [← List.map_id l]
 exact List.map_congr_left h
theorem Zb5 {α:Type} (l:List α) {n:Nat} (h:l.length = n):(l.drop 0).take n = l:=by
 rw [List.drop_zero,List.take_of_length_le (by omega)]
theorem ZsB {f:V → V} {xs:List V} {z:V} (hx:∀ v ∈ xs,f v = v) (hz:f z = z) (i:Nat):(Zdi xs z i).map f = Zdi xs z i:=map_id fun v hv=>by
 rcases List.mem_append.1 hv with h | h
 ·exact hx v (List.mem_of_mem_take h)
 ·rw [(List.mem_replicate.1 h).2]; exact hz
theorem Zbq {α:Type} (l:List α) (i:Nat) (v:α):(Zao l i v).length = l.length:=by rw [ZaM,List.length_set]
theorem Zep {α:Type} (l:List α) (i:Nat) (v u:α):Zao (Zao l i v) i u = Zao l i u:=by rw [ZaM,ZaM,ZaM,List.set_set]
theorem Zdr {α:Type} [Inhabited α] {l:List α} {i j:Nat} {v:α} (h:i < l.length):at_ (Zao l i v) j = if i = j then v else at_ l j:=by
 unfold at_
 rw [ZaM,List.getD_eq_getElem?_getD,List.getD_eq_getElem?_getD,List.getElem?_set]
 by_cases hij:i = j
 ·subst hij; simp [h]
 ·simp [hij]
end Go.VM.VL
set_option linter.unusedSimpArgs false
set_option linter.unusedVariables false
namespace Go.VM.VL
instance:Inhabited (List Int):=⟨[]⟩
abbrev uI:TypeId:=3
def rowV (fq:Fl) (r:List Int):V:=.list 1 (intsV r) fq
def rowsV (fq:Fl) (d:List (List Int)):List V:=d.map (rowV fq)
def ZuJ (r:List Int):V:=.uni uI 1 (intsV r)
def Zbc (d:List (List Int)):List V:=d.map ZuJ
section
variable {R:Type} (N:Nat) {fq fr:Fl}
theorem ZaZ (d:List (List Int)):(rowsV fq d).length = d.length:=by simp [rowsV]
theorem Zdc (d:List (List Int)):(Zbc d).length = d.length:=by simp [Zbc]
theorem Zca {d:List (List Int)} {i:Nat} (h:i < d.length):nth (rowsV fq d) i = some (rowV fq (at_ d i)):=by rw [rowsV,ZjD,Znp h,ZcL h]; rfl
theorem ZeK {d:List (List Int)} {i:Nat} (h:i < d.length):nth (Zbc d) i = some (ZuJ (at_ d i)):=by rw [Zbc,ZjD,Znp h,ZcL h]; rfl
theorem ZbG (r:List Int) (k:List V → Fl → Option R):ZaV 1 (rowV fq r) k = k (intsV r) fq:=rfl
theorem ZjV (d:List (List Int)):(Zbc d).map V.unil = rowsV .bor d:=by rw [Zbc,rowsV,List.map_map]; rfl
theorem Zkw (d:List (List Int)):(rowsV fq d).map V.lent = rowsV .bor d:=by rw [rowsV,rowsV,List.map_map]; rfl
theorem ZcK (n:Nat) (d:List (List Int)):(Zbc d).map (trimV n) = Zbc d:=map_id fun v hv=>by
 obtain ⟨e,_,rfl⟩:=List.mem_map.1 hv; rfl
theorem ZrE (n:Nat) (d:List (List Int)):∀ v ∈ Zbc d,trimV n v = v:=fun v hv=>by
 obtain ⟨e,_,rfl⟩:=List.mem_map.1 hv; rfl
theorem ZkP (s:S) (n:Nat) (d:List (List Int)):ZaJ (freeze true s (n + 1)) (rowsV .bor d) = some (rowsV .bor d):=Zgb fun v hv=>by
 obtain ⟨e,_,rfl⟩:=List.mem_map.1 hv; rfl
theorem Zq9 (l:List Int):Zbu (intsV l) = true:=by
 unfold Zbu
 rw [List.all_eq_true]; intro v hv
 obtain ⟨e,_,rfl⟩:=List.mem_map.1 hv
 rfl
theorem ZhU (l:List Int):Zax (intsV l) = true:=by
 unfold Zax
 rw [List.all_eq_true]; intro v hv
 obtain ⟨e,_,rfl⟩:=List.mem_map.1 hv
 rfl
theorem ZbY (l:List Int):(intsV l).all V.scalE = true:=by
 rw [List.all_eq_true]; intro v hv
 obtain ⟨e,_,rfl⟩:=List.mem_map.1 hv
 rfl
theorem ZdD (d:List (List Int)):Zbu (Zbc d) = true:=by
 unfold Zbu
 rw [List.all_eq_true]; intro v hv
 obtain ⟨e,_,rfl⟩:=List.mem_map.1 hv
 rfl
theorem ZcF (d:List (List Int)):Zax (Zbc d) = true:=by
 unfold Zax
 rw [List.all_eq_true]; intro v hv
 obtain ⟨e,_,rfl⟩:=List.mem_map.1 hv
 rfl
theorem ZpF (l:List Int) (i:Nat) (n:Int):Zao (intsV l) i (.int .i64 n) = intsV (Zao l i n):=Zks (V.int .i64) l i n
theorem ZfQ (d:List (List Int)) (i:Nat) (r:List Int):Zao (Zbc d) i (ZuJ r) = Zbc (Zao d i r):=Zks ZuJ d i r
def dSz (d:List (List Int)):Nat:=d.length + ZcA (fun i=>(at_ d i).length) d.length
def DkOk (d:List (List Int)):Prop:=d.length ≤ 9223372036854775807 ∧ ∀ i,i < d.length → (at_ d i).length ≤ 9223372036854775807
theorem Zt0 (r:List Int) (hr:r.length ≤ 9223372036854775807) (f:Fl) (x:Int) (h0:0 ≤ x) (h1:x ≤ 1048576) (k:Int → Option R):Ztq N (intsV r) f x k = k (left x r.length):=by
 rw [Zn7]
 unfold Zko left
 rw [ZaA,Zdk (by omega) (by omega)]
 by_cases h:(r.length:Int) ≤ x
 ·rw [decide_eq_false (by omega),if_pos h]
 ·rw [decide_eq_true (by omega),if_neg h]
theorem Zse {l:List (List Int)} (hl:DkOk l) (hN:1048576 < N) (f:Fl) (x:Int) (h0:0 ≤ x) (h1:x ≤ 1048576) (k:Int → Option R) :
  Ztg N (rowsV fq l) f x k = k (left x (dSz l)):=by
 rw [Zog]
 unfold ZkO
 have hll:=hl.1
 rw [ZaZ,Zdk (by omega) (by omega)]
 by_cases h:(l.length:Int) ≤ x
 ·rw [decide_eq_false (by omega)]
  let g:=fun i=>(at_ l i).length
  have ge:∀ i,ZcA g (i + 1) = ZcA g i + (at_ l i).length:=fun i=>rfl
  have e0:x - (l.length:Int) = x - l.length - (ZcA g 0:Nat):=by simp [ZcA]
  show ZdG N (rowsV fq l) f (fun _=>k (-1)) (fun x=>k x) N (x - l.length) 0 = _
  rw [e0]
  refine (Zgy (l:=fun n i=>ZdG N (rowsV fq l) f (fun _=>k (-1)) (fun x=>k x) n (x - l.length - ZcA g i) (i:Int)) (len:=l.length)
   (p:=fun i=>decide (0 ≤ x - l.length - ZcA g (i + 1))) (k0:=k (-1)) (k1:=k (x - l.length - ZcA g l.length)) ?_ ?_ (show l.length < N by omega)).trans ?_
  ·intro n i hi hq
   have hn:0 ≤ x - l.length - ZcA g i:=by
    cases i with
    | zero=>simp only [ZcA]; omega
    | succ i=>exact of_decide_eq_true (hq i (by omega))
   simp only [ZdG,Zci,ZaZ,Zbk hi,Int.natCast_nonneg,if_true,Int.toNat_natCast,Zca hi,Zaf,ZbG]
   rw [Zt0 N _ (hl.2 i hi) _ _ hn (by omega)]
   simp only [ge]
   by_cases h3:((at_ l i).length:Int) ≤ x - l.length - ZcA g i
   ·rw [ZsF h3,decide_eq_true (p:=0 ≤ _) (by omega),decide_eq_false (by omega),ZaT (i:=i) (by omega)]
    simp only [Int.natCast_add,Int.sub_sub,Int.add_assoc,if_true]
   ·rw [Zms h3,decide_eq_false (p:=0 ≤ _) (by omega)]
    simp
  ·intro _ n
   simp only [ZdG,Zci,ZaZ,Int.lt_irrefl,decide_false]
  ·have hall:(List.range' 0 l.length).all (fun i=>decide (0 ≤ x - l.length - ZcA g (i + 1))) = decide (0 ≤ x - l.length - ZcA g l.length):=by
    rw [Bool.eq_iff_iff,Zfb]
    constructor
    ·intro hq
     rcases Nat.eq_zero_or_pos l.length with hz0 | hz0
     ·have e1:ZcA g l.length = 0:=by rw [hz0]; rfl
      rw [e1]
      exact decide_eq_true (by omega)
     ·obtain ⟨m,hm⟩:∃ m,l.length = m + 1:=⟨l.length - 1,by omega⟩
      have:=hq m (by omega)
      rwa [← hm] at this
    ·intro hq i hi
     have:=of_decide_eq_true hq
     have:=ZeR g (a:=i + 1) (b:=l.length) (by omega)
     exact decide_eq_true (by omega)
   rw [hall]
   have e:dSz l = l.length + ZcA g l.length:=rfl
   simp only [left,e]
   by_cases h4:0 ≤ x - l.length - ZcA g l.length
   ·rw [decide_eq_true h4,if_pos rfl,if_pos (by omega)]
    simp only [Int.natCast_add,Int.sub_sub]
   ·rw [decide_eq_false h4,if_neg (by simp),if_neg (by omega)]
 ·rw [decide_eq_true (by omega)]
  rw [Zms]
  unfold dSz
  omega
structure SmallD (d:List (List Int)):Prop where
 len:d.length ≤ 1048576
 row:∀ i,i < d.length → (at_ d i).length ≤ 1048576
 sum:ZcA (fun i=>(at_ d i).length) d.length ≤ 1048576
theorem SmallD.of {d:List (List Int)} (h:dSz d ≤ 1048576):SmallD d:=by
 unfold dSz at h
 exact ⟨by omega,fun i hi=>Nat.le_trans (Zo7 (fun i=>(at_ d i).length) hi) (by omega),by omega⟩
theorem Zwe (a:Int) (v:V):ZaG (.int .i64 a) 0 [v] = some v:=rfl
theorem Zt2 (es:List V) (v:V):ZaG (.uni uI 1 es) 0 [v] = some v:=rfl
theorem Zu3 (o a b n:Nat) (v:V):ZaG (.arr o a b n) 0 [v] = some v:=rfl
theorem Zuw {l:List Int} (hl:l.length ≤ 1048576) (hN:1048576 < N) (f:Fl) (k0:List V → Option R) :
  ZdN N (intsV l) f l.length k0 N 0 (List.replicate l.length (.int .i64 0)) = k0 (intsV l):=by
 have e0:List.replicate l.length (V.int .i64 0) = Zdi (intsV l) (.int .i64 0) 0:=by rw [ZhM,ZaA]
 rw [e0]
 refine Zb3 (l:=fun n i=>ZdN N (intsV l) f l.length k0 n (i:Int) (Zdi (intsV l) (.int .i64 0) i)) (len:=l.length) (k1:=k0 (intsV l)) ?_ ?_ (show l.length < N by omega)
 ·intro n i hi
  have hi':i < (intsV l).length:=by rw [ZaA]; exact hi
  simp only [ZdN,Zcn,ZaA,Zbk hi,Int.natCast_nonneg,if_true,Int.toNat_natCast,ZbI hi,Zaf,ZbD,Nat.zero_add,Zkp _ _ hi',Zwe]
  rw [if_pos ⟨trivial,by omega⟩,ZaT (i:=i) (by omega),← ZkL (intsV l) _ _ hi' (ZbI hi)]
 ·intro n
  simp only [ZdN,Zcn,ZaA,Int.lt_irrefl,decide_false]
  rw [show Zdi (intsV l) (.int .i64 0) l.length = intsV l by rw [← ZaA l]; exact Zlw _ _]
theorem Zs8 {l:List Int} (hl:l.length ≤ 1048576) (hN:1048576 < N) (f:Fl) (k:Nat → List V → Option R):Zti N (intsV l) f k = k l.length (intsV l):=by
 rw [Zoh]
 unfold ZlJ
 rw [ZaA,if_pos ⟨by omega,rfl,by omega⟩,Int.toNat_natCast]
 refine (Zuw N hl hN f _).trans ?_
 simp only [Zq9,Bool.and_true,Zag]
theorem ZrJ {l:List (List Int)} (hl:SmallD l) (hN:1048576 < N) (f:Fl) (k0:List V → Option R) :
  Zdx N (rowsV fq l) f l.length k0 N 0 (List.replicate l.length (.uni uI 1 [])) = k0 (Zbc l):=by
 have hll:=hl.len
 have e0:List.replicate l.length (V.uni uI 1 []) = Zdi (Zbc l) (.uni uI 1 []) 0:=by rw [ZhM,Zdc]
 rw [e0]
 refine Zb3 (l:=fun n i=>Zdx N (rowsV fq l) f l.length k0 n (i:Int) (Zdi (Zbc l) (.uni uI 1 []) i)) (len:=l.length) (k1:=k0 (Zbc l)) ?_ ?_ (show l.length < N by omega)
 ·intro n i hi
  have hi':i < (Zbc l).length:=by rw [Zdc]; exact hi
  simp only [Zdx,Zcv,ZaZ,Zbk hi,Int.natCast_nonneg,if_true,Int.toNat_natCast,Zca hi,Zaf,ZbG,Zs8 N (hl.row i hi) hN,Nat.zero_add,Zkp _ _ hi',Zb5 _ (ZaA _),Zt2]
  rw [if_pos ⟨trivial,by omega⟩]
  simp only [ZaA,Nat.le_refl,decide_true,ZbY,Zag]
  have e:=ZkL (Zbc l) (.uni uI 1 []) _ hi' (ZeK hi)
  unfold ZuJ at e
  rw [ZaT (i:=i) (by omega),e,ZsB (ZrE 1 l) rfl]
 ·intro n
  simp only [Zdx,Zcv,ZaZ,Int.lt_irrefl,decide_false]
  rw [show Zdi (Zbc l) (.uni uI 1 []) l.length = Zbc l by rw [← Zdc l]; exact Zlw _ _,ZcK]
theorem ZqS {l:List (List Int)} (hl:SmallD l) (hN:1048576 < N) (f:Fl) (k:Nat → List V → Option R):ZlN N (rowsV fq l) f k = k l.length (Zbc l):=by
 rw [ZnU]
 unfold Zlu
 have hll:=hl.len
 rw [ZaZ,if_pos ⟨by omega,rfl,by omega⟩,Int.toNat_natCast]
 refine (ZrJ N hl hN f _).trans ?_
 simp only [ZdD,Bool.and_true,Zag]
theorem Zs5 {l:List Int} (hl:l.length ≤ 1048576) (hN:1048576 < N) (f g:Fl) (k:Bool → Option R):Ztn N (intsV l) f (intsV l) g k = k true:=by
 rw [Zod]
 unfold ZkG
 simp only [bne_self_eq_false]
 refine Zb3 (l:=fun n i=>Zet N (intsV l) f (intsV l) g (fun _=>k false) (fun _=>k true) n (i:Int)) (len:=l.length) (k1:=k true) ?_ ?_ (show l.length < N by omega)
 ·intro n i hi
  simp only [Zet,Zcm,ZaA,Zbk hi,Int.natCast_nonneg,if_true,Int.toNat_natCast,ZbI hi,Zaf,ZbD,bne_self_eq_false]
  rw [ZaT (i:=i) (by omega)]
 ·intro n
  simp only [Zet,Zcm,ZaA,Int.lt_irrefl,decide_false]
theorem Zla {l:List (List Int)} (hll:l.length ≤ 1048576) (hr:∀ i,i < l.length → (at_ l i).length ≤ 1048576) (hN:1048576 < N) (f g:Fl) (k:Bool → Option R):ZlP N (rowsV fq l) f (rowsV fr l) g k = k true:=by
 rw [Zo1]
 unfold ZlB
 simp only [ZaZ,bne_self_eq_false]
 refine Zb3 (l:=fun n i=>ZeA N (rowsV fq l) f (rowsV fr l) g (fun _=>k false) (fun _=>k true) n (i:Int)) (len:=l.length) (k1:=k true) ?_ ?_ (show l.length < N by omega)
 ·intro n i hi
  simp only [ZeA,Zcz,ZaZ,Zbk hi,Int.natCast_nonneg,if_true,Int.toNat_natCast,Zca hi,Zaf,ZbG,Zs5 N (hr i hi) hN,Bool.not_true]
  rw [ZaT (i:=i) (by omega)]
 ·intro n
  simp only [ZeA,Zcz,ZaZ,Int.lt_irrefl,decide_false]
def ZhA (x:Nat) (r:List Int):Prop:=∀ j,j < r.length → at_ r j = ((x + j:Nat):Int)
theorem Zvs (x:Nat):∀ (d n i:Nat) (L:List Int),i + d = L.length → d < n → x + L.length < 10 ^ 15 →
  ∃ L':List Int,L'.length = L.length ∧ (∀ j,j < i → at_ L' j = at_ L j) ∧ (∀ j,i ≤ j → j < L.length → at_ L' j = ((x + j:Nat):Int)) ∧
   ∀ {R:Type} (k0:Int → List V → Option R),Zer N L.length k0 n ((x + i:Nat):Int) (i:Int) (intsV L) = k0 ((x + L.length:Nat):Int) (intsV L'):=by
 intro d
 induction d with
 | zero =>
  intro n i L hi hn hx
  obtain ⟨n,rfl⟩:∃ m,n = m + 1:=⟨n - 1,by omega⟩
  obtain rfl:i = L.length:=by omega
  refine ⟨L,rfl,fun _ _=>rfl,fun j h1 h2=>absurd h2 (by omega),fun k0=>?_⟩
  simp only [Zer,Zcl,Int.lt_irrefl,decide_false]
 | succ d ih =>
  intro n i L hi hn hx
  obtain ⟨n,rfl⟩:∃ m,n = m + 1:=⟨n - 1,by omega⟩
  have hil:i < L.length:=by omega
  obtain ⟨L',h1,h2,h3,h4⟩:=ih n (i + 1) (Zao L i ((x + i:Nat):Int)) (by rw [Zbq]; omega) (by omega) (by rw [Zbq]; omega)
  rw [Zbq] at h1 h3 h4
  refine ⟨L',h1,fun j hj=>?_,fun j hj hj2=>?_,fun k0=>?_⟩
  ·rw [h2 j (by omega),Zdr hil,if_neg (by omega)]
  ·by_cases hij:i = j
   ·subst hij; rw [h2 i (by omega),Zdr hil,if_pos rfl]
   ·exact h3 j (by omega) hj2
  ·simp only [Zer,Zcl,Zbk hil]
   rw [if_pos ⟨by omega,by omega⟩,Int.toNat_natCast,Nat.zero_add,ZbI hil]
   simp only [Zwe]
   rw [ZaT (i:=x + i) (by omega),ZaT (i:=i) (by omega),ZpF]
   exact h4 k0
theorem Zqq (hN:1048576 < N) (x:Nat) (L:List Int) (hl:L.length ≤ 1048576) (hx:x + L.length < 10 ^ 15) :
  ∃ L':List Int,L'.length = L.length ∧ ZhA x L' ∧
   ∀ {R:Type} (k:Int → List V → Option R),Zs1 N L.length (x:Int) (intsV L) k = k ((x + L.length:Nat):Int) (intsV L'):=by
 obtain ⟨L',h1,_,h3,h4⟩:=Zvs N x L.length N 0 L (by omega) (by omega) hx
 refine ⟨L',h1,fun j hj=>h3 j (by omega) (by omega),fun k=>?_⟩
 rw [ZoH]
 unfold Zku
 refine (h4 _).trans ?_
 simp only [ZhU,Bool.and_true,Zag]
theorem Zx9 (v:V) (h:∀ cs,v ≠ .agg cs) (K:V → List V → Option R):Zde (v.cells.drop 0) K = K v []:=by
 cases v <;> first | rfl | exact absurd rfl (h _)
theorem Zmb (es:List V) (K:V → List V → Option R):Zde ((V.uni uI 1 es).cells.drop 0) K = K (.uni uI 1 es) []:=rfl
theorem Zvh (o a b n:Nat) (K:V → List V → Option R):Zde ((V.arr o a b n).cells.drop 0) K = K (.arr o a b n) []:=rfl
theorem ZjI (es:List V) (K:List V → Option R):Zg0 uI 1 (.uni uI 1 es) K = K es:=rfl
theorem Zq0 (o n:Nat):ZfI o n (.arr o 0 0 n) = true:=by simp [ZfI]
def ZaP (d:List (List Int)) (i:Nat):Nat:=ZcA (fun i=>(at_ d i).length) i
theorem Zea {g h:Nat → Nat}:∀ {n:Nat},(∀ i,i < n → g i = h i) → ZcA g n = ZcA h n
 | 0,_=>rfl
 | n + 1,H=>by simp only [ZcA]; rw [Zea fun i hi=>H i (by omega),H n (by omega)]
theorem ZvA (hN:1048576 < N) (x:Nat):∀ (d n i:Nat) (L:List (List Int)),i + d = L.length → d < n → L.length ≤ 1048576 → (∀ j,j < L.length → (at_ L j).length ≤ 1048576) → x + ZaP L L.length < 10 ^ 15 →
  ∃ L':List (List Int),L'.length = L.length ∧ (∀ j,j < L.length → (at_ L' j).length = (at_ L j).length) ∧ (∀ j,j < i → at_ L' j = at_ L j) ∧ (∀ j,i ≤ j → j < L.length → ZhA (x + ZaP L j) (at_ L' j)) ∧
   ∀ {R:Type} (k0:Int → List V → Option R),Zeq N L.length k0 n ((x + ZaP L i:Nat):Int) (i:Int) (Zbc L) = k0 ((x + ZaP L L.length:Nat):Int) (Zbc L'):=by
 intro d
 induction d with
 | zero =>
  intro n i L hi hn hll hr hx
  obtain ⟨n,rfl⟩:∃ m,n = m + 1:=⟨n - 1,by omega⟩
  obtain rfl:i = L.length:=by omega
  refine ⟨L,rfl,fun _ _=>rfl,fun _ _=>rfl,fun j h1 h2=>absurd h2 (by omega),fun k0=>?_⟩
  simp only [Zeq,Zcj,Int.lt_irrefl,decide_false,ZcK]
 | succ d ih =>
  intro n i L hi hn hll hr hx
  obtain ⟨n,rfl⟩:∃ m,n = m + 1:=⟨n - 1,by omega⟩
  have hil:i < L.length:=by omega
  have hle:ZaP L (i + 1) ≤ ZaP L L.length:=ZeR _ (by omega)
  have hs1:ZaP L (i + 1) = ZaP L i + (at_ L i).length:=rfl
  obtain ⟨r',r1,r2,r3⟩:=Zqq N hN (x + ZaP L i) (at_ L i) (hr i hil) (by omega)
  have hsame:∀ m,ZaP (Zao L i r') m = ZaP L m:=fun m=>Zea fun j _=>by
   simp only [Zdr hil]
   split
   ·rename_i h; subst h; exact r1
   ·rfl
  obtain ⟨L',h1,h1b,h2,h3,h4⟩:=ih n (i + 1) (Zao L i r') (by rw [Zbq]; omega) (by omega) (by rw [Zbq]; exact hll) (fun j hj=>by
   rw [Zbq] at hj
   rw [Zdr hil]
   split
   ·rw [r1]; exact hr i hil
   ·exact hr j hj) (by rw [Zbq,hsame]; exact hx)
  rw [Zbq] at h1 h1b h3 h4
  simp only [hsame] at h3 h4
  refine ⟨L',h1,fun j hj=>?_,fun j hj=>?_,fun j hj hj2=>?_,fun k0=>?_⟩
  ·rw [h1b j hj,Zdr hil]
   split
   ·rename_i h; subst h; exact r1
   ·rfl
  ·rw [h2 j (by omega),Zdr hil,if_neg (by omega)]
  ·by_cases hij:i = j
   ·subst hij
    rw [h2 i (by omega),Zdr hil,if_pos rfl]
    exact r2
   ·exact h3 j (by omega) hj2
  ·have hil':i < (Zbc L).length:=by rw [Zdc]; exact hil
   have hc:((0:Int) ≤ (i:Int) ∧ (i:Int) < (L.length:Int)) = True:=eq_true ⟨by omega,by omega⟩
   simp only [Zeq,Zcj,Zbk hil,hc,if_true,Int.toNat_natCast,Nat.zero_add,ZeK hil,ZuJ,Zmb,ZjI,Zt2,Zu3,ZaA,ZhU,Bool.and_true,Zag,r3,ZdL,Zep,hil',Zvh,Zq0,r1,Nat.le_refl,decide_true,Zb5 (intsV r') ((ZaA r').trans r1),ZbY,
    ZaT (i:=i) (show i < 9223372036854775807 by omega)]
   have e4:(Zao (Zbc L) i (.uni uI 1 (intsV r'))).map (trimV 1) = Zbc (Zao L i r'):=(congrArg (List.map (trimV 1)) (ZfQ L i r')).trans (ZcK 1 _)
   rw [e4,Nat.add_assoc]
   exact h4 k0
theorem ZgU (hN:1048576 < N) (x:Nat) (L:List (List Int)) (hll:L.length ≤ 1048576) (hr:∀ j,j < L.length → (at_ L j).length ≤ 1048576) (hx:x + ZaP L L.length < 10 ^ 15) :
  ∃ L':List (List Int),L'.length = L.length ∧ (∀ j,j < L.length → (at_ L' j).length = (at_ L j).length) ∧ (∀ j,j < L.length → ZhA (x + ZaP L j) (at_ L' j)) ∧
   ∀ {R:Type} (k:Int → List V → Option R),Znw N L.length (x:Int) (Zbc L) k = k ((x + ZaP L L.length:Nat):Int) (Zbc L'):=by
 obtain ⟨L',h1,h1b,_,h3,h4⟩:=ZvA N hN x L.length N 0 L (by omega) (by omega) hll hr hx
 refine ⟨L',h1,h1b,fun j hj=>h3 j (by omega) hj,fun k=>?_⟩
 rw [Zov]
 unfold Zlx
 refine (h4 _).trans ?_
 simp only [ZcF,Bool.and_true,Zag]
theorem ZpK (hN:1048576 < N) (x:Nat) (L:List Int) (hl:L.length ≤ 1048576) (hx:x + L.length < 10 ^ 15) (hL:ZhA x L) (f:Fl) (k:Int → Option R) :
  Zup N (intsV L) f (x:Int) k = k ((x + L.length:Nat):Int):=by
 rw [Zoa]
 unfold Zlc
 refine Zb3 (l:=fun n i=>Zev N (intsV L) f (fun _=>k (-1)) (fun x=>k x) n ((x + i:Nat):Int) (i:Int)) (len:=L.length) (k1:=k ((x + L.length:Nat):Int)) ?_ ?_ (show L.length < N by omega)
 ·intro n i hi
  simp only [Zev,Zcq,ZaA,Zbk hi,Int.natCast_nonneg,if_true,Int.toNat_natCast,ZbI hi,Zaf,ZbD,hL i hi,bne_self_eq_false]
  rw [ZaT (i:=x + i) (by omega),ZaT (i:=i) (by omega)]
  rfl
 ·intro n
  simp only [Zev,Zcq,ZaA,Int.lt_irrefl,decide_false]
theorem Zm7 (hN:1048576 < N) (x:Nat) (L:List (List Int)) (hll:L.length ≤ 1048576) (hr:∀ j,j < L.length → (at_ L j).length ≤ 1048576) (hx:x + ZaP L L.length < 10 ^ 15) (hL:∀ j,j < L.length → ZhA (x + ZaP L j) (at_ L j)) (f:Fl) (k:Int → Option R) :
  ZpH N (rowsV fq L) f (x:Int) k = k ((x + ZaP L L.length:Nat):Int):=by
 rw [Zo9]
 unfold Zj1
 refine Zb3 (l:=fun n i=>Zek N (rowsV fq L) f (fun _=>k (-1)) (fun x=>k x) n ((x + ZaP L i:Nat):Int) (i:Int)) (len:=L.length) (k1:=k ((x + ZaP L L.length:Nat):Int)) ?_ ?_ (show L.length < N by omega)
 ·intro n i hi
  have hle:ZaP L (i + 1) ≤ ZaP L L.length:=ZeR _ (by omega)
  have hs1:ZaP L (i + 1) = ZaP L i + (at_ L i).length:=rfl
  simp only [Zek,Zco,ZaZ,Zbk hi,Int.natCast_nonneg,if_true,Int.toNat_natCast,Zca hi,Zaf,ZbG]
  rw [ZpK N hN _ _ (hr i hi) (by omega) (hL i hi),decide_eq_false (by omega),ZaT (i:=i) (by omega),Nat.add_assoc]
  rfl
 ·intro n
  simp only [Zek,Zco,ZaZ,Int.lt_irrefl,decide_false]
end
end Go.VM.VL
set_option linter.unusedSimpArgs false
set_option linter.unusedVariables false
namespace Go.VM.VL
theorem ZuE (y:Int) (l:List Int):at_ (y :: l) 0 = y:=rfl
theorem ZlL (y:Int) (l:List Int) (i:Nat):at_ (y :: l) (i + 1) = at_ l i:=rfl
def ZeD (x:Int):List Int → Nat
 | []=>0
 | y :: l=>if y < x then ZeD x l + 1 else 0
theorem ZlU (x:Int):∀ s,ZeD x s ≤ s.length
 | []=>Nat.le_refl _
 | y :: l=>by
  have:=ZlU x l
  simp only [ZeD,List.length_cons]
  split <;> omega
theorem ZqC (x:Int):∀ (s:List Int) (i:Nat),i < ZeD x s → at_ s i < x
 | [],i,h=>by simp [ZeD] at h
 | y :: l,i,h=>by
  simp only [ZeD] at h
  split at h
  ·cases i with
   | zero=>assumption
   | succ i=>exact ZqC x l i (by omega)
  ·omega
theorem ZsN (x:Int):∀ s:List Int,ZeD x s < s.length → ¬ at_ s (ZeD x s) < x
 | [],h=>by simp at h
 | y :: l,h=>by
  simp only [ZeD] at h ⊢
  split at h
  ·rename_i hy
   rw [if_pos hy,ZlL]
   exact ZsN x l (by simp at h; omega)
  ·rename_i hy
   rw [if_neg hy]
   exact hy
def ZeC (x:Int):List Int → List Int
 | []=>[x]
 | y :: l=>if y < x then y :: ZeC x l else if y = x then y :: l else x :: y :: l
theorem Zhy (x:Int):∀ s:List Int,ZeD x s < s.length → at_ s (ZeD x s) = x → ZeC x s = s
 | [],h,_=>by simp at h
 | y :: l,h,he=>by
  simp only [ZeC]
  by_cases hy:y < x
  ·have e:ZeD x (y :: l) = ZeD x l + 1:=if_pos hy
   rw [e] at h he
   rw [if_pos hy,Zhy x l (by simp at h; omega) he]
  ·have e:ZeD x (y :: l) = 0:=if_neg hy
   rw [e] at he
   have he':y = x:=he
   rw [if_neg hy,if_pos he']
theorem Zgm (x:Int):∀ s:List Int,¬ (ZeD x s < s.length ∧ at_ s (ZeD x s) = x) → ZeC x s = s.take (ZeD x s) ++ [x] ++ s.drop (ZeD x s)
 | [],_=>by simp [ZeC,ZeD]
 | y :: l,h=>by
  simp only [ZeC]
  by_cases hy:y < x
  ·have e:ZeD x (y :: l) = ZeD x l + 1:=if_pos hy
   rw [e] at h ⊢
   rw [if_pos hy,Zgm x l (fun hc=>h ⟨by simp; omega,hc.2⟩)]
   rfl
  ·have e:ZeD x (y :: l) = 0:=if_neg hy
   rw [e] at h ⊢
   have hne:¬ y = x:=fun he=>h ⟨by simp,he⟩
   rw [if_neg hy,if_neg hne]
   rfl
theorem Zgz (x n:Int):∀ s:List Int,n ∈ ZeC x s ↔ n ∈ s ∨ n = x
 | []=>by simp [ZeC]
 | y :: l=>by
  simp only [ZeC]
  split
  ·rw [List.mem_cons,Zgz x n l,List.mem_cons]; exact or_assoc.symm
  ·split
   ·rename_i h; subst h
    constructor
    ·exact .inl
    ·rintro (h | rfl)
     ·exact h
     ·exact List.mem_cons_self
   ·simp only [List.mem_cons]
    constructor
    ·rintro (h | h)
     ·exact .inr h
     ·exact .inl h
    ·rintro (h | h)
     ·exact .inr h
     ·exact .inl h
def Srt (s:List Int):Prop:=s.Pairwise (· < ·)
theorem ZjQ (x:Int):∀ s:List Int,Srt s → Srt (ZeC x s)
 | [],_=>by simp [Srt,ZeC]
 | y :: l,h=>by
  obtain ⟨h1,h2⟩:=List.pairwise_cons.1 h
  simp only [ZeC]
  split
  ·rename_i hy
   refine List.pairwise_cons.2 ⟨fun a ha=>?_,ZjQ x l h2⟩
   rcases (Zgz x a l).1 ha with h | rfl
   ·exact h1 a h
   ·exact hy
  ·rename_i hy
   split
   ·exact h
   ·rename_i hne
    refine List.pairwise_cons.2 ⟨fun a ha=>?_,h⟩
    rcases List.mem_cons.1 ha with rfl | ha
    ·omega
    ·have:=h1 a ha; omega
theorem Zn2 (x:Int):∀ s:List Int,Srt s → (ZeC x s).length = if x ∈ s then s.length else s.length + 1
 | [],_=>by simp [ZeC]
 | y :: l,h=>by
  obtain ⟨h1,h2⟩:=List.pairwise_cons.1 h
  simp only [ZeC]
  by_cases hy:y < x
  ·rw [if_pos hy,List.length_cons,Zn2 x l h2]
   have:x ∈ y :: l ↔ x ∈ l:=by
    rw [List.mem_cons]
    exact ⟨fun h=>h.resolve_left (by omega),.inr⟩
   by_cases hx:x ∈ l
   ·rw [if_pos hx,if_pos (this.2 hx),List.length_cons]
   ·rw [if_neg hx,if_neg (fun h=>hx (this.1 h)),List.length_cons]
  ·rw [if_neg hy]
   by_cases he:y = x
   ·rw [if_pos he,if_pos (by rw [he]; exact List.mem_cons_self)]
   ·rw [if_neg he,if_neg (fun hm=>by
     rcases List.mem_cons.1 hm with h | h
     ·exact he h.symm
     ·have:=h1 x h; omega)]
    rfl
theorem Zmm (x:Int) (s:List Int):(ZeC x s).length ≤ s.length + 1:=by
 by_cases h:ZeD x s < s.length ∧ at_ s (ZeD x s) = x
 ·rw [Zhy x s h.1 h.2]; omega
 ·rw [Zgm x s h]
  have:=ZlU x s
  simp only [List.length_append,List.length_take,List.length_drop,List.length_singleton]; omega
def Zhz (s:List Int) (l:List Int):List Int:=l.foldl (fun s x=>ZeC x s) s
theorem Zhi:∀ (l s:List Int),(Zhz s l).length ≤ s.length + l.length
 | [],s=>Nat.le_refl _
 | x :: l,s=>by
  have:=Zhi l (ZeC x s)
  have:=Zmm x s
  show (Zhz (ZeC x s) l).length ≤ _
  simp only [List.length_cons]; omega
theorem Zt9:∀ (l s:List Int),Srt s → Srt (Zhz s l)
 | [],s,h=>h
 | x :: l,s,h=>Zt9 l (ZeC x s) (ZjQ x s h)
theorem Zok (n:Int):∀ (l s:List Int),n ∈ Zhz s l ↔ n ∈ s ∨ n ∈ l
 | [],s=>by simp [Zhz]
 | x :: l,s=>by
  show n ∈ Zhz (ZeC x s) l ↔ _
  rw [Zok n l (ZeC x s),Zgz,List.mem_cons,or_assoc]
theorem ZjJ:∀ (l s:List Int),Srt s → ((Zhz s l).length = s.length + l.length ↔ l.Nodup ∧ ∀ x ∈ l,x ∉ s)
 | [],s,h=>by simp [Zhz]
 | x :: l,s,h=>by
  show (Zhz (ZeC x s) l).length = _ ↔ _
  have h1:=ZjJ l (ZeC x s) (ZjQ x s h)
  have h2:=Zhi l (ZeC x s)
  have h3:=Zn2 x s h
  simp only [List.length_cons,List.nodup_cons,List.mem_cons,forall_eq_or_imp]
  by_cases hx:x ∈ s
  ·rw [if_pos hx] at h3
   constructor
   ·intro h; omega
   ·intro h; exact absurd hx h.2.1
  ·rw [if_neg hx] at h3
   rw [show s.length + (l.length + 1) = (ZeC x s).length + l.length by omega,h1]
   simp only [Zgz]
   constructor
   ·rintro ⟨h4,h5⟩
    exact ⟨⟨fun hm=>h5 x hm (.inr rfl),h4⟩,hx,fun a ha hs=>h5 a ha (.inl hs)⟩
   ·rintro ⟨⟨h4,h5⟩,h6,h7⟩
    exact ⟨h5,fun a ha=>by
     rintro (h8 | rfl)
     ·exact h7 a ha h8
     ·exact h4 ha⟩
theorem ZoE (s l m:List Int):Zhz s (l ++ m) = Zhz (Zhz s l) m:=List.foldl_append
section
variable {R:Type} (N:Nat) {fq:Fl}
theorem Zem (s:List Int):(intsV s).map V.noOwn = intsV s:=by unfold intsV; rw [List.map_map]; rfl
theorem ZfB (s:List Int) (j:Nat):(intsV s).take j = intsV (s.take j):=by unfold intsV; rw [List.map_take]
theorem Zik (s:List Int) (j:Nat):(intsV s).drop j = intsV (s.drop j):=by unfold intsV; rw [List.map_drop]
theorem ZgT (s t:List Int):intsV s ++ intsV t = intsV (s ++ t):=by unfold intsV; rw [List.map_append]
theorem ZtQ (es:List V):Ziq .sh es = true:=rfl
theorem Zrp {s:List Int} (hs:s.length ≤ 1048576) (hN:1048580 < N) (x:Int) (k:List V → Option R):ZsD N (intsV s) .sh x k = k (intsV (ZeC x s)):=by
 rw [ZoM]
 unfold Zlv
 have hx1:([.int .i64 x]:List V) = intsV [x]:=rfl
 have hJ:=ZlU x s
 simp only [hx1,ZaA,Fl.noOwn,ZtQ,Zag]
 refine Zb3 (l:=fun n i=>ZdH N (intsV s) .sh x _ n (i:Int)) (len:=ZeD x s) (k1:=k (intsV (ZeC x s))) ?_ ?_ (show ZeD x s < N by omega)
 ·intro n i hi
  have hil:i < s.length:=by omega
  simp only [ZdH,ZbT,ZaA,Zbk hil,Int.natCast_nonneg,if_true,Int.toNat_natCast,ZbI hil,Zaf,ZbD]
  rw [decide_eq_true (ZqC x s i hi),ZaT (i:=i) (by omega)]
 ·intro n
  by_cases hl:ZeD x s < s.length
  ·simp only [ZdH,ZbT,ZaA,Zbk hl,Int.natCast_nonneg,if_true,Int.toNat_natCast,ZbI hl,Zaf,ZbD]
   rw [decide_eq_false (ZsN x s hl)]
   simp only [Zbk hl,Int.natCast_nonneg,if_true,Int.toNat_natCast,ZbI hl,Zaf,ZbD]
   by_cases he:at_ s (ZeD x s) = x
   ·rw [Zhy x s hl he,he,beq_self_eq_true]
    rfl
   ·rw [Zgm x s (fun h=>he h.2),beq_false_of_ne he]
    simp only [ZfB,Zik,Zem,List.drop_zero,List.nil_append,ZgT,ZaA]
    have hle:((ZeD x s:Nat):Int) ≤ (s.length:Int):=by omega
    simp only [true_and,hle,if_true]
    repeat rw [if_pos (by (try simp only [List.length_append,List.length_take,List.length_drop,List.length_singleton]); omega)]
    rw [List.take_of_length_le (Nat.le_refl _)]
  ·have hjl:ZeD x s = s.length:=by omega
   rw [Zgm x s (fun h=>hl h.1),hjl]
   simp only [ZdH,ZbT,ZaA,Int.lt_irrefl,decide_false]
   simp only [ZfB,Zik,Zem,List.drop_zero,List.nil_append,ZgT,ZaA,Int.toNat_natCast]
   rw [if_pos (show (0:Int) ≤ (s.length:Int) ∧ (s.length:Int) ≤ (s.length:Int) from ⟨by omega,by omega⟩),List.take_of_length_le (Nat.le_refl _)]
   repeat rw [if_pos (by (try simp only [List.length_append,List.length_take,List.length_drop,List.length_singleton]); omega)]
theorem Zoj (a b c:Int) (k:Bool → Option R):Zl0 N a b c k = k (inR a b c):=by
 rw [ZnX]
 unfold Zk1 inR
 by_cases h:b ≤ a
 ·rw [decide_eq_true (show a ≥ b from h)]; rfl
 ·rw [decide_eq_false (show ¬ a ≥ b from h)]; rfl
def ZeY (r:List Int):Bool:=r.all fun x=>inR x 0 999
theorem Zr2 (r:List Int) (p:Int → Bool):r.all p = (List.range' 0 r.length).all fun i=>p (at_ r i):=by
 rw [Bool.eq_iff_iff,Zfb,List.all_eq_true]
 constructor
 ·intro h i hi; exact h _ (at_mem hi)
 ·intro h x hx
  obtain ⟨i,hi,rfl⟩:=List.getElem_of_mem hx
  rw [← ZcL hi]; exact h i hi
theorem ZuU {r:List Int} (hr:r.length ≤ 1048576) (hN:1048576 < N) (f:Fl) (k:Bool → Option R):ZtS N (intsV r) f 0 999 k = k (ZeY r):=by
 rw [ZnV]
 unfold Zli ZeY
 rw [ZaA,Zr2]
 refine (Zgy (l:=fun n i=>Zex N 0 999 (intsV r) f.noOwn (r.length:Int) (fun _=>k false) (fun _=>k true) n (i:Int)) (len:=r.length) (p:=fun i=>inR (at_ r i) 0 999) (k0:=k false) (k1:=k true) ?_ ?_ (show r.length < N by omega)).trans ?_
 ·intro n i hi _
  simp only [Zex,Zcs,Zbk hi,Int.natCast_nonneg,if_true,Int.toNat_natCast,ZbI hi,Zaf,ZbD,Zoj]
  rw [ZaT (i:=i) (by omega)]
  cases inR (at_ r i) 0 999 <;> rfl
 ·intro _ n
  simp only [Zex,Zcs,Int.lt_irrefl,decide_false]
 ·cases (List.range' 0 r.length).all fun i=>inR (at_ r i) 0 999 <;> rfl
theorem Zvf {r:List Int} (hr:r.length ≤ 1048576) (hN:1048576 < N) (f:Fl) (x:Int) (k:Bool → Option R):Zs3 N (intsV r) f x k = k (decide (x ∈ r)):=by
 rw [Zoy]
 unfold Zj8
 rw [ZaA]
 refine (Zgy (l:=fun n i=>Zeo N x (intsV r) f.noOwn (r.length:Int) (fun _=>k true) (fun _=>k false) n (i:Int)) (len:=r.length) (p:=fun i=>!(at_ r i == x)) (k0:=k true) (k1:=k false) ?_ ?_ (show r.length < N by omega)).trans ?_
 ·intro n i hi _
  simp only [Zeo,Zcw,Zbk hi,Int.natCast_nonneg,if_true,Int.toNat_natCast,ZbI hi,Zaf,ZbD]
  rw [ZaT (i:=i) (by omega)]
  cases (at_ r i == x) <;> rfl
 ·intro _ n
  simp only [Zeo,Zcw,Int.lt_irrefl,decide_false]
 ·rw [← Zr2 r (fun y=>!(y == x))]
  by_cases h:x ∈ r
  ·rw [decide_eq_true h,if_neg]
   intro hc
   have:=List.all_eq_true.1 hc x h
   simp at this
  ·rw [decide_eq_false h,if_pos]
   rw [List.all_eq_true]
   intro y hy
   have:y ≠ x:=fun e=>h (e ▸ hy)
   simp [this]
def OkF (f:Fl):Prop:=f.noOwn = .sh
theorem OkF.two {f:Fl} (h:OkF f):f.noOwn.noOwn = .sh:=by
 unfold OkF at h; rw [h]; rfl
theorem OkF.still {f:Fl} (h:OkF f) (x:Option R):Zme f x = x:=by
 cases f <;> first | rfl | cases h
theorem Zwx {r:List Int} (hN:1048580 < N) (a:List V) (b:Fl) (c d:Int) (g:Fl):∀ (m n i:Nat) (s:List Int) (f:Fl),i + m = r.length → m < n → r.length ≤ 1048576 → s.length + m ≤ 1048576 → OkF f →
  ∃ f',OkF f' ∧ ∀ (k0:List V → Fl → Option R),Zee N a b c d (intsV r) g (r.length:Int) k0 n (intsV s) f (i:Int) = k0 (intsV (Zhz s (r.drop i))) f':=by
 intro m
 induction m with
 | zero =>
  intro n i s f hi hn hr hs hf
  obtain ⟨n,rfl⟩:∃ q,n = q + 1:=⟨n - 1,by omega⟩
  obtain rfl:i = r.length:=by omega
  refine ⟨f,hf,fun k0=>?_⟩
  simp only [Zee,Zcy,Int.lt_irrefl,decide_false,List.drop_length]
  rfl
 | succ m ih =>
  intro n i s f hi hn hr hs hf
  obtain ⟨n,rfl⟩:∃ q,n = q + 1:=⟨n - 1,by omega⟩
  have hil:i < r.length:=by omega
  have hp:=Zmm (at_ r i) s
  obtain ⟨f',h1,h2⟩:=ih n (i + 1) (ZeC (at_ r i) s) .sh (by omega) (by omega) hr (by omega) rfl
  refine ⟨f',h1,fun k0=>?_⟩
  simp only [Zee,Zcy,Zbk hil,Int.natCast_nonneg,if_true,Int.toNat_natCast,ZbI hil,Zaf,ZbD]
  rw [hf.two,Zrp N (by omega) hN,ZaT (i:=i) (by omega),h2 k0,List.drop_eq_getElem_cons hil,← ZcL hil]
  rfl
def ZcQ (d:List (List Int)) (i:Nat):List Int:=(d.drop i).flatten
theorem Zds {d:List (List Int)} {i:Nat} (h:i < d.length):ZcQ d i = at_ d i ++ ZcQ d (i + 1):=by
 unfold ZcQ
 rw [List.drop_eq_getElem_cons h,ZcL h]; rfl
theorem Zid (d:List (List Int)):∀ (m i:Nat),i + m = d.length → (ZcQ d i).length + ZaP d i = ZaP d d.length:=by
 intro m
 induction m with
 | zero =>
  intro i hi
  obtain rfl:i = d.length:=by omega
  simp [ZcQ]
 | succ m ih =>
  intro i hi
  have:=ih (i + 1) (by omega)
  have e:ZaP d (i + 1) = ZaP d i + (at_ d i).length:=rfl
  rw [Zds (by omega),List.length_append]
  omega
theorem Zv9 {d:List (List Int)} (hN:1048580 < N) (hd:SmallD d) (g:Fl):∀ (m n i:Nat) (s:List Int) (f:Fl),i + m = d.length → m < n → s.length + (ZcQ d i).length ≤ 1048576 → OkF f →
  ∃ f',OkF f' ∧ ∀ (k0:List V → Fl → Option R),Zes N (rowsV fq d) g (d.length:Int) k0 n (intsV s) f (i:Int) = k0 (intsV (Zhz s (ZcQ d i))) f':=by
 have hdl:=hd.len
 intro m
 induction m with
 | zero =>
  intro n i s f hi hn hs hf
  obtain ⟨n,rfl⟩:∃ q,n = q + 1:=⟨n - 1,by omega⟩
  obtain rfl:i = d.length:=by omega
  refine ⟨f,hf,fun k0=>?_⟩
  simp only [Zes,Zcp,Int.lt_irrefl,decide_false,ZcQ,List.drop_length]
  rfl
 | succ m ih =>
  intro n i s f hi hn hs hf
  obtain ⟨n,rfl⟩:∃ q,n = q + 1:=⟨n - 1,by omega⟩
  have hil:i < d.length:=by omega
  rw [Zds hil,List.length_append] at hs
  have hp:=Zhi (at_ d i) s
  obtain ⟨f1,h1,h2⟩:=Zwx (R:=R) N (r:=at_ d i) hN (rowsV fq d) g (d.length:Int) (i:Int) (fq.noOwn.noOwn) (at_ d i).length N 0 s f (by omega) (by have:=hd.row i hil; omega) (hd.row i hil) (by omega) hf
  obtain ⟨f',h3,h4⟩:=ih n (i + 1) (Zhz s (at_ d i)) f1 (by omega) (by omega) (by omega) h1
  refine ⟨f',h3,fun k0=>?_⟩
  simp only [Zes,Zcp,Zbk hil,Int.natCast_nonneg,if_true,Int.toNat_natCast,Zca hil,Zaf,ZbG,ZaA]
  refine (h2 _).trans ?_
  rw [List.drop_zero,ZaT (i:=i) (by omega),h4 k0,Zds hil,ZoE]
theorem Zs7 {d:List (List Int)} (hN:1048580 < N) (hd:SmallD d) (f:Fl) (k:List V → Option R):Zru N (rowsV fq d) f k = k (intsV (Zhz [] d.flatten)):=by
 rw [Zom]
 unfold ZkV
 rw [ZaZ]
 have hdl:=hd.len
 have hsum:=Zid d d.length 0 (by omega)
 have h0:ZaP d 0 = 0:=rfl
 have hs:=hd.sum
 obtain ⟨f',h1,h2⟩:=Zv9 (R:=R) (fq:=fq) N hN hd f.noOwn d.length N 0 [] (.own 3) (by omega) (by omega) (by
  rw [h0] at hsum
  unfold ZaP at hsum
  simp only [List.length_nil]; omega) rfl
 refine (h2 _).trans ?_
 rw [h1.still]
 rfl
end
end Go.VM.VL
set_option linter.unusedSimpArgs false
set_option linter.unusedVariables false
namespace Go.VM.VL
section
variable {R:Type} (N:Nat) {fq:Fl}
def Zhc (d:List (List Int)) (i:Nat):Bool:=(d.drop i).all ZeY
theorem Zqc {d:List (List Int)} {i:Nat} (h:i < d.length):Zhc d i = (ZeY (at_ d i) && Zhc d (i + 1)):=by
 unfold Zhc
 rw [List.drop_eq_getElem_cons h,ZcL h]; rfl
theorem ZvG {r:List Int} (hN:1048580 < N) (a:List V) (b:Fl) (a2:List V) (b2:Fl) (c d:Int) (g:Fl):∀ (m n i:Nat) (s:List Int) (f:Fl) (t:Nat),i + m = r.length → m < n → r.length ≤ 1048576 → s.length + m ≤ 1048576 → t + m ≤ 1048576 → OkF f →
  ∃ f',OkF f' ∧ ∀ (k0:List V → Fl → Int → Option R),Zd8 N a b a2 b2 c d (intsV r) g (r.length:Int) k0 n (intsV s) f (t:Int) (i:Int) = k0 (intsV (Zhz s (r.drop i))) f' ((t + m:Nat):Int):=by
 intro m
 induction m with
 | zero =>
  intro n i s f t hi hn hr hs ht hf
  obtain ⟨n,rfl⟩:∃ q,n = q + 1:=⟨n - 1,by omega⟩
  obtain rfl:i = r.length:=by omega
  refine ⟨f,hf,fun k0=>?_⟩
  simp only [Zd8,Zck,Int.lt_irrefl,decide_false,List.drop_length]
  rfl
 | succ m ih =>
  intro n i s f t hi hn hr hs ht hf
  obtain ⟨n,rfl⟩:∃ q,n = q + 1:=⟨n - 1,by omega⟩
  have hil:i < r.length:=by omega
  have hp:=Zmm (at_ r i) s
  obtain ⟨f',h1,h2⟩:=ih n (i + 1) (ZeC (at_ r i) s) .sh (t + 1) (by omega) (by omega) hr (by omega) (by omega) rfl
  refine ⟨f',h1,fun k0=>?_⟩
  simp only [Zd8,Zck,Zbk hil,Int.natCast_nonneg,if_true,Int.toNat_natCast,ZbI hil,Zaf,ZbD]
  rw [hf.two,Zrp N (by omega) hN,ZaT (i:=i) (by omega),ZaT (i:=t) (by omega),h2 k0,List.drop_eq_getElem_cons hil,← ZcL hil,show t + 1 + m = t + (m + 1) by omega]
  rfl
theorem Zu4 {d:List (List Int)} (hN:1048580 < N) (hd:SmallD d) (a:List V) (b g:Fl):∀ (m n i:Nat) (s:List Int) (f:Fl) (t:Nat),i + m = d.length → m < n → s.length + (ZcQ d i).length ≤ 1048576 → t + (ZcQ d i).length ≤ 1048576 → OkF f →
  (Zhc d i = true → ∃ f',OkF f' ∧ ∀ (k0 k1:List V → Fl → Int → Option R),Zc1 N a b (rowsV fq d) g (d.length:Int) k0 k1 n (intsV s) f (t:Int) (i:Int) = k1 (intsV (Zhz s (ZcQ d i))) f' ((t + (ZcQ d i).length:Nat):Int)) ∧
  (Zhc d i = false → ∃ e f' x,∀ (k0 k1:List V → Fl → Int → Option R),Zc1 N a b (rowsV fq d) g (d.length:Int) k0 k1 n (intsV s) f (t:Int) (i:Int) = k0 e f' x):=by
 have hdl:=hd.len
 intro m
 induction m with
 | zero =>
  intro n i s f t hi hn hs ht hf
  obtain ⟨n,rfl⟩:∃ q,n = q + 1:=⟨n - 1,by omega⟩
  obtain rfl:i = d.length:=by omega
  refine ⟨fun _=>⟨f,hf,fun k0 k1=>?_⟩,fun h=>by simp [Zhc] at h⟩
  simp only [Zc1,Zcg,Int.lt_irrefl,decide_false,ZcQ,List.drop_length]
  rfl
 | succ m ih =>
  intro n i s f t hi hn hs ht hf
  obtain ⟨n,rfl⟩:∃ q,n = q + 1:=⟨n - 1,by omega⟩
  have hil:i < d.length:=by omega
  have hts:=Zds hil
  rw [hts,List.length_append] at hs ht
  have hp:=Zhi (at_ d i) s
  have hrow:=hd.row i hil
  obtain ⟨f1,h1,h2⟩:=ZvG (R:=R) N (r:=at_ d i) hN a b (rowsV fq d) g (d.length:Int) (i:Int) (fq.noOwn.noOwn) (at_ d i).length N 0 s f t (by omega) (by omega) hrow (by omega) (by omega) hf
  obtain ⟨i1,i2⟩:=ih n (i + 1) (Zhz s (at_ d i)) f1 (t + (at_ d i).length) (by omega) (by omega) (by omega) (by omega) h1
  have step:∀ (k0 k1:List V → Fl → Int → Option R),Zc1 N a b (rowsV fq d) g (d.length:Int) k0 k1 (n + 1) (intsV s) f (t:Int) (i:Int) =
    if ZeY (at_ d i) then Zc1 N a b (rowsV fq d) g (d.length:Int) k0 k1 n (intsV (Zhz s (at_ d i))) f1 ((t + (at_ d i).length:Nat):Int) ((i + 1:Nat):Int) else k0 (intsV s) f (t:Int):=by
   intro k0 k1
   simp only [Zc1,Zcg,Zbk hil,Int.natCast_nonneg,if_true,Int.toNat_natCast,Zca hil,Zaf,ZbG,ZaA,ZuU N hrow (show 1048576 < N by omega)]
   cases ZeY (at_ d i) with
   | false=>rfl
   | true =>
    simp only [Bool.not_true,if_true]
    refine (h2 _).trans ?_
    rw [List.drop_zero,ZaT (i:=i) (by omega)]
  rw [Zqc hil]
  refine ⟨fun h=>?_,fun h=>?_⟩
  ·rw [Bool.and_eq_true] at h
   obtain ⟨f',j1,j2⟩:=i1 h.2
   refine ⟨f',j1,fun k0 k1=>?_⟩
   rw [step,if_pos h.1,j2,hts,ZoE,List.length_append,Nat.add_assoc]
  ·by_cases hb:ZeY (at_ d i) = true
   ·rw [hb,Bool.true_and] at h
    obtain ⟨e,f',x,j2⟩:=i2 h
    exact ⟨e,f',x,fun k0 k1=>by rw [step,if_pos hb,j2]⟩
   ·exact ⟨_,_,_,fun k0 k1=>by rw [step,if_neg hb]⟩
def Zeb (d:List (List Int)):Bool:=Zhc d 0 && (inR (d.length:Int) 1 8 && (decide (d.flatten.length ≤ 60) && decide d.flatten.Nodup))
theorem Ziv {d:List (List Int)} (hd:SmallD d):d.flatten.length ≤ 1048576:=by
 have hsum:=Zid d d.length 0 (by omega)
 have h0:ZaP d 0 = 0:=rfl
 have hs:=hd.sum
 rw [h0] at hsum
 unfold ZaP at hsum
 have e:ZcQ d 0 = d.flatten:=rfl
 rw [e] at hsum
 omega
theorem Zre {d:List (List Int)} (hN:1048580 < N) (hd:SmallD d) (f:Fl) (k:Bool → Option R):Zuk N (rowsV fq d) f k = k (Zeb d):=by
 rw [ZoS]
 unfold Zj7 Zeb
 rw [ZaZ]
 have hdl:=hd.len
 have hfl:=Ziv hd
 obtain ⟨h1,h2⟩:=Zu4 (R:=R) (fq:=fq) N hN hd (rowsV fq d) f f.noOwn d.length N 0 [] (.own 3) 0 (by omega) (by omega) (by
  show 0 + d.flatten.length ≤ _; omega) (by show 0 + d.flatten.length ≤ _; omega) rfl
 cases ht:Zhc d 0 with
 | false =>
  obtain ⟨e,f',x,h3⟩:=h2 ht
  exact h3 _ _
 | true =>
  obtain ⟨f',_,h3⟩:=h1 ht
  refine (h3 _ _).trans ?_
  have hal:=ZjJ d.flatten [] (by simp [Srt])
  have e0:ZcQ d 0 = d.flatten:=rfl
  simp only [Zoj,e0,Nat.zero_add,ZaA,Bool.true_and]
  cases inR (d.length:Int) 1 8 with
  | false=>rfl
  | true =>
   simp only [Bool.true_and]
   by_cases h60:d.flatten.length ≤ 60
   ·rw [decide_eq_true (show (d.flatten.length:Int) ≤ 60 by omega),decide_eq_true h60]
    simp only [Bool.true_and]
    congr 1
    rw [Bool.eq_iff_iff,decide_eq_true_eq,beq_iff_eq]
    simp only [List.length_nil,Nat.zero_add] at hal
    constructor
    ·intro h; exact (hal.1 (by omega)).1
    ·intro h; have:=hal.2 ⟨h,fun x _ hx=>by cases hx⟩; omega
   ·rw [decide_eq_false (show ¬ (d.flatten.length:Int) ≤ 60 by omega),decide_eq_false h60]
    rfl
def ZeJ (d:List (List Int)) (x:Int):Bool:=Zeb d && inR x 0 ((d.length:Int) - 1)
theorem ZpO {d:List (List Int)} (hN:1048580 < N) (hd:SmallD d) (f:Fl) (x:Int) (k:Bool → Option R):Zs6 N (rowsV fq d) f x k = k (ZeJ d x):=by
 rw [Zol]
 unfold Zlk ZeJ
 have hdl:=hd.len
 rw [Zre N hN hd,ZaZ,Zdk (by omega) (by omega),Zoj]
 cases Zeb d <;> rfl
theorem ZjM (a b c:Int) (k:Bool → Option R):Zps N a b c k = k (inR a b c):=by
 rw [Zpb]
 unfold ZkM inR
 by_cases h:b ≤ a
 ·rw [decide_eq_true (show a ≥ b from h)]; rfl
 ·rw [decide_eq_false (show ¬ a ≥ b from h)]; rfl
theorem ZnQ (a:Int) (k:Bool → Option R):ZqI N a k = k (inR a 0 999):=by
 rw [ZnZ]
 unfold Zkh
 rw [ZjM]
theorem ZpX (f:Fl) (r:List Int):Ziq f (intsV r) = true:=by
 cases f <;> first | rfl | skip
 show (intsV r).all V.plain = true
 rw [List.all_eq_true]; intro v hv
 obtain ⟨e,_,rfl⟩:=List.mem_map.1 hv
 rfl
theorem Zf3 {d:List (List Int)} {i:Nat} (h:i < d.length):(d.take (i + 1)).flatten = (d.take i).flatten ++ at_ d i:=by
 rw [List.take_succ_eq_append_getElem h,List.flatten_append,ZcL h]; simp
theorem ZjB {d:List (List Int)}:∀ i,i ≤ d.length → (d.take i).flatten.length = ZaP d i
 | 0,_=>rfl
 | i + 1,h=>by rw [Zf3 (by omega),List.length_append,ZjB i (by omega)]; rfl
theorem Zul {d:List (List Int)} (hN:1048580 < N) (hd:SmallD d) (f:Fl) (k:List V → Option R):ZtU N (rowsV fq d) f k = k (intsV d.flatten):=by
 rw [Zop]
 unfold Zlp
 have hdl:=hd.len
 have hs:=hd.sum
 rw [ZaZ]
 have hle:∀ i,i ≤ d.length → ZaP d i ≤ 1048576:=fun i hi=>Nat.le_trans (ZeR _ hi) hs
 have h1:∀ (k0:Int → Option R),Zdz N (rowsV fq d) f (rowsV fq d) f.noOwn (d.length:Int) k0 N 0 0 = k0 ((ZaP d d.length:Nat):Int):=by
  intro k0
  refine Zb3 (l:=fun n i=>Zdz N (rowsV fq d) f (rowsV fq d) f.noOwn (d.length:Int) k0 n ((ZaP d i:Nat):Int) (i:Int)) (len:=d.length) (k1:=k0 ((ZaP d d.length:Nat):Int)) ?_ ?_ (show d.length < N by omega)
  ·intro n i hi
   have e:ZaP d (i + 1) = ZaP d i + (at_ d i).length:=rfl
   have:=hle (i + 1) (by omega)
   simp only [Zdz,Zcd,Zbk hi,Int.natCast_nonneg,if_true,Int.toNat_natCast,Zca hi,Zaf,ZbG,ZaA]
   rw [Zdk (x:=(ZaP d i:Int) + ((at_ d i).length:Int)) (by omega) (by omega),decide_eq_false (by omega),ZaT (i:=i) (by omega)]
   rw [show ((ZaP d i:Nat):Int) + ((at_ d i).length:Int) = ((ZaP d (i + 1):Nat):Int) by rw [e]; exact (Int.natCast_add _ _).symm]
  ·intro n
   simp only [Zdz,Zcd,Int.lt_irrefl,decide_false]
 rw [h1]
 rw [Zo3]
 unfold ZjW
 have:=hle d.length (Nat.le_refl _)
 rw [if_pos ⟨by omega,by omega⟩]
 refine (Zb3 (l:=fun n i=>Zey N (rowsV fq d) f.noOwn (d.length:Int) (fun e=>k e) n (intsV (d.take i).flatten) (i:Int)) (len:=d.length) (k1:=k (intsV (d.take d.length).flatten)) ?_ ?_ (show d.length < N by omega)).trans ?_
 ·intro n i hi
  have e:ZaP d (i + 1) = ZaP d i + (at_ d i).length:=rfl
  have:=hle (i + 1) (by omega)
  simp only [Zey,Zcc,Zbk hi,Int.natCast_nonneg,if_true,Int.toNat_natCast,Zca hi,Zaf,ZbG,ZaA,ZpX,Zag,Zem,ZgT]
  rw [if_pos (by rw [ZjB i (by omega)]; omega),ZaT (i:=i) (by omega),Zf3 hi]
 ·intro n
  simp only [Zey,Zcc,Int.lt_irrefl,decide_false]
 ·rw [List.take_of_length_le (Nat.le_refl _)]
theorem Zp2 {r:List Int} (hr:r.length ≤ 1048576) (hN:1048576 < N) (f:Fl) (x:Int) (k:Bool → Option R):Ztd N (intsV r) f x k = k (decide (x ∈ r)):=by
 rw [ZoW]
 unfold Zk7
 rw [ZnP]
 unfold Zle
 rw [ZaA]
 refine (Zij (β:=Nat) (l:=fun n i=>Zec N (intsV r) f.noOwn.noOwn x (r.length:Int) _ _ n (i:Int)) (len:=r.length) (q:=fun i=>if x == at_ r i then some i else none) (kb:=fun i=>k true) (k1:=k false) ?_ ?_ (show r.length < N by omega)).trans ?_
 ·intro n i hi _
  simp only [Zec,Zch,Zbk hi,Int.natCast_nonneg,if_true,Int.toNat_natCast,ZbI hi,Zaf,ZbD]
  rw [ZaT (i:=i) (by omega)]
  cases (x == at_ r i) with
  | false=>rfl
  | true =>
   simp only [if_true]
   simp
 ·intro _ n
  simp only [Zec,Zch,Int.lt_irrefl,decide_false]
  rfl
 ·by_cases h:x ∈ r
  ·rw [decide_eq_true h]
   cases hq:(List.range' 0 r.length).findSome? (fun i=>if x == at_ r i then some i else none) with
   | some i=>rfl
   | none =>
    exfalso
    obtain ⟨i,hi,he⟩:=List.getElem_of_mem h
    have:=ZhT.1 hq i hi
    rw [ZcL hi,he] at this
    simp at this
  ·rw [decide_eq_false h]
   have:(List.range' 0 r.length).findSome? (fun i=>if x == at_ r i then some i else none) = none:=ZhT.2 fun i hi=>by
    have hne:x ≠ at_ r i:=fun e=>h (e ▸ at_mem hi)
    rw [beq_false_of_ne hne]; rfl
   rw [this]
theorem Ztr (T:List Int):T.Nodup ↔ ∀ i,i < T.length → at_ T i ∉ T.take i:=by
 unfold List.Nodup
 rw [List.pairwise_iff_getElem]
 constructor
 ·intro h i hi hm
  obtain ⟨j,hj,he⟩:=List.getElem_of_mem hm
  have hj2:j < i:=by simp at hj; omega
  rw [List.getElem_take,ZcL hi] at he
  exact h j i (by omega) hi hj2 he
 ·intro h i j hi hj hij he
  refine h j hj ?_
  rw [ZcL hj,← he]
  exact List.mem_iff_getElem.2 ⟨i,by simp; omega,List.getElem_take ..⟩
theorem ZfO (d:List (List Int)):Zhc d 0 = ZeY d.flatten:=by
 unfold Zhc ZeY
 rw [List.drop_zero]
 induction d with
 | nil=>rfl
 | cons r d ih=>rw [List.all_cons,List.flatten_cons,List.all_append,ih]
theorem Zg7 {d:List (List Int)} (hN:1048580 < N) (hd:SmallD d) (f:Fl) (k:Bool → Option R):ZsO N (rowsV fq d) f k = k (Zeb d):=by
 rw [Zow]
 unfold ZlK Zeb
 have hfl:=Ziv hd
 rw [Zul N hN hd,ZaZ,ZjM,ZaA,ZfO]
 cases inR (d.length:Int) 1 8 with
 | false=>simp
 | true =>
  simp only [Bool.not_true,Bool.true_and]
  by_cases h60:d.flatten.length ≤ 60
  ·rw [decide_eq_false (show ¬ (d.flatten.length:Int) > 60 by omega),decide_eq_true h60]
   simp only [Bool.true_and]
   let T:=d.flatten
   refine (Zgy (l:=fun n i=>Zen N (intsV d.flatten) (intsV d.flatten) (d.flatten.length:Int) (fun _=>k false) (fun _=>k true) n (i:Int)) (len:=d.flatten.length) (p:=fun i=>inR (at_ d.flatten i) 0 999 && !decide (at_ d.flatten i ∈ d.flatten.take i)) (k0:=k false) (k1:=k true) ?_ ?_ (show d.flatten.length < N by omega)).trans ?_
   ·intro n i hi _
    simp only [Zen,Zcu,Zbk hi,Int.natCast_nonneg,if_true,Int.toNat_natCast,ZbI hi,Zaf,ZbD,ZnQ,ZaA,List.drop_zero,ZfB]
    rw [Zp2 N (show (d.flatten.take i).length ≤ 1048576 by rw [List.length_take]; omega) (by omega),if_pos ⟨trivial,show (i:Int) ≤ (d.flatten.length:Int) by omega⟩,ZaT (i:=i) (by omega)]
    cases inR (at_ d.flatten i) 0 999 <;> cases decide (at_ d.flatten i ∈ d.flatten.take i) <;> rfl
   ·intro _ n
    simp only [Zen,Zcu,Int.lt_irrefl,decide_false]
   ·have e:((List.range' 0 d.flatten.length).all fun i=>inR (at_ d.flatten i) 0 999 && !decide (at_ d.flatten i ∈ d.flatten.take i)) = (ZeY d.flatten && decide d.flatten.Nodup):=by
     unfold ZeY
     rw [Zr2,Bool.eq_iff_iff,Bool.and_eq_true,Zfb,Zfb,decide_eq_true_eq,Ztr]
     constructor
     ·intro h
      refine ⟨fun i hi=>?_,fun i hi=>?_⟩
      ·have:=h i hi; rw [Bool.and_eq_true] at this; exact this.1
      ·have:=h i hi; rw [Bool.and_eq_true] at this; simpa using this.2
     ·rintro ⟨h1,h2⟩ i hi
      rw [Bool.and_eq_true]
      exact ⟨h1 i hi,by simpa using h2 i hi⟩
    rw [e]
    cases (ZeY d.flatten && decide d.flatten.Nodup) <;> rfl
  ·rw [decide_eq_true (show (d.flatten.length:Int) > 60 by omega),decide_eq_false h60]
   simp
theorem Zqp {d:List (List Int)} (hN:1048580 < N) (hd:SmallD d) (f:Fl) (x:Int) (k:Bool → Option R):Zus N (rowsV fq d) f x k = k (ZeJ d x):=by
 rw [Zoo]
 unfold Zkc ZeJ
 have hdl:=hd.len
 rw [Zg7 N hN hd,ZaZ,Zdk (by omega) (by omega),ZjM]
 cases Zeb d <;> rfl
theorem Zhq {r:List Int} (hr:r.length ≤ 1048576) (k:Nat → List V → Option R):ZhR 8 1 (intsV r) k = k r.length (intsV r):=by
 unfold ZhR
 rw [ZaA,if_pos (by omega),ZbY]
 have:((intsV r).all fun e=>Nat.beq e.cells.length 1) = true:=by
  rw [List.all_eq_true]; intro v hv
  obtain ⟨e,_,rfl⟩:=List.mem_map.1 hv
  rfl
 rw [this]; rfl
theorem Zvo {r:List Int} (hr:r.length ≤ 1048576) (f:Fl) (k:Nat → List V → Option R):Zs2 N (intsV r) f k = k r.length (intsV r):=by
 rw [Zn3]; unfold Zj2; exact Zhq hr k
theorem Zu8 {r:List Int} (hr:r.length ≤ 1048576) (f:Fl) (k:Nat → List V → Option R):Zty N (intsV r) f k = k r.length (intsV r):=by
 rw [Zon]; unfold Zkb; exact Zhq hr k
theorem ZhL {d:List (List Int)} {i:Nat} (h:i < d.length):Zbc (d.take i) ++ ([.uni uI 1 (intsV (at_ d i))]:List V) = Zbc (d.take (i + 1)):=by
 unfold Zbc
 rw [List.take_succ_eq_append_getElem h,List.map_append,ZcL h]; rfl
theorem Zd6 {d:List (List Int)} {i:Nat} (h:i ≤ d.length):(Zbc (d.take i)).length = i:=by simp [Zbc]; omega
theorem ZtK {d:List (List Int)} (hN:1048580 < N) (hd:SmallD d) (f:Fl) (k:Nat → List V → Option R):Zuh N (rowsV fq d) f k = k d.length (Zbc d):=by
 rw [ZoO]
 unfold Zkv
 have hdl:=hd.len
 rw [ZaZ]
 refine (Zb3 (l:=fun n i=>Zez N (rowsV fq d) f.noOwn (d.length:Int) _ n i (i:Int) (Zbc (d.take i))) (len:=d.length) (k1:=k d.length (Zbc (d.take d.length))) ?_ ?_ (show d.length < N by omega)).trans ?_
 ·intro n i hi
  simp only [Zez,Zcx,Zbk hi,Int.natCast_nonneg,if_true,Int.toNat_natCast,Zca hi,Zaf,ZbG,Zvo N (hd.row i hi),Zb5 _ (ZaA _),ZaA,Nat.zero_add,Nat.le_refl,decide_true,ZbY,ZhL hi,ZcK,ZcF,Bool.and_true,Zag]
  rw [if_pos ⟨trivial,(Zd6 (by omega)).symm,by omega⟩,ZaT (i:=i) (by omega)]
 ·intro n
  simp only [Zez,Zcx,Int.lt_irrefl,decide_false,ZcK,ZcF,ZdD,Bool.and_true,Zag]
 ·rw [List.take_of_length_le (Nat.le_refl _)]
theorem Zqd {d:List (List Int)} (hN:1048580 < N) (hd:SmallD d) (f:Fl) (k:Nat → List V → Option R):Zt7 N (rowsV fq d) f k = k d.length (Zbc d):=by
 rw [ZnW]
 unfold ZjT
 have hdl:=hd.len
 rw [ZaZ]
 refine (Zb3 (l:=fun n i=>Zei N (rowsV fq d) f.noOwn (d.length:Int) _ n i (i:Int) (Zbc (d.take i))) (len:=d.length) (k1:=k d.length (Zbc (d.take d.length))) ?_ ?_ (show d.length < N by omega)).trans ?_
 ·intro n i hi
  simp only [Zei,Zcr,Zbk hi,Int.natCast_nonneg,if_true,Int.toNat_natCast,Zca hi,Zaf,ZbG,Zu8 N (hd.row i hi),Zb5 _ (ZaA _),ZaA,Nat.zero_add,Nat.le_refl,decide_true,ZbY,ZhL hi,ZcK,ZcF,Bool.and_true,Zag]
  rw [if_pos ⟨trivial,(Zd6 (by omega)).symm,by omega⟩,ZaT (i:=i) (by omega)]
 ·intro n
  simp only [Zei,Zcr,Int.lt_irrefl,decide_false,ZcK,ZcF,ZdD,Bool.and_true,Zag]
 ·rw [List.take_of_length_le (Nat.le_refl _)]
end
end Go.VM.VL
set_option linter.unusedSimpArgs false
set_option linter.unusedVariables false
namespace Go.VM.VL
section
variable {R:Type} (N:Nat) {fq:Fl}
def Zdn (d:List (List Int)) (a:Nat) (x:Int):List (List Int):=Zao d a (at_ d a ++ [x])
theorem Zif {d:List (List Int)} {a:Nat} (ha:a < d.length) (x:Int):(Zdn d a x).flatten.Perm (x :: d.flatten):=by
 have e:Zdn d a x = d.take a ++ (at_ d a ++ [x]) :: d.drop (a + 1):=by
  unfold Zdn
  rw [ZaM,List.set_eq_take_append_cons_drop,if_pos ha]
 have e2:d.flatten = (d.take a).flatten ++ (at_ d a ++ (d.drop (a + 1)).flatten):=by
  conv=>lhs; rw [← List.take_append_drop a d,List.drop_eq_getElem_cons ha]
  rw [List.flatten_append,List.flatten_cons,ZcL ha]
 rw [e,e2,List.flatten_append,List.flatten_cons]
 have h1:((d.take a).flatten ++ ((at_ d a ++ [x]) ++ (d.drop (a + 1)).flatten)) = ((d.take a).flatten ++ at_ d a) ++ x :: (d.drop (a + 1)).flatten:=by simp
 rw [h1,← List.append_assoc]
 exact List.perm_middle
theorem Zfu {d:List (List Int)} (h1:d.length ≤ 1048576) (h2:d.flatten.length ≤ 1048576):SmallD d:=by
 have h:=ZjB (d:=d) d.length (Nat.le_refl _)
 rw [List.take_of_length_le (Nat.le_refl _)] at h
 have h3:ZaP d d.length ≤ 1048576:=by omega
 exact ⟨h1,fun i hi=>Nat.le_trans (Zo7 (fun i=>(at_ d i).length) hi) h3,h3⟩
theorem ZiR {d:List (List Int)} (h:Zeb d = true):d.length ≤ 8 ∧ d.flatten.length ≤ 60 ∧ d.flatten.Nodup ∧ ZeY d.flatten = true:=by
 unfold Zeb at h
 simp only [Bool.and_eq_true,decide_eq_true_eq] at h
 obtain ⟨h1,h2,h3,h4⟩:=h
 have:=Zq7.1 h2
 exact ⟨by omega,h3,h4,by rw [← ZfO]; exact h1⟩
theorem Zg1 {d:List (List Int)} {a:Nat} (ha:a < d.length) (hg:Zeb d = true) (x:Int):SmallD (Zdn d a x):=by
 obtain ⟨h1,h2,_,_⟩:=ZiR hg
 have:=(Zif ha x).length_eq
 refine Zfu (by unfold Zdn; rw [Zbq]; omega) (by rw [this,List.length_cons]; omega)
theorem Zqh {d:List (List Int)} {a:Nat} (ha:a < d.length) (hg:Zeb d = true) {x:Int} (hx:inR x 0 999 = true):Zeb (Zdn d a x) = (!decide (x ∈ d.flatten) && !decide (d.flatten.length = 60)):=by
 obtain ⟨h1,h2,h3,h4⟩:=ZiR hg
 have hp:=Zif ha x
 have hl:=hp.length_eq
 have ht:Zhc (Zdn d a x) 0 = true:=by
  rw [ZfO]
  unfold ZeY at h4 ⊢
  rw [List.all_eq_true] at h4 ⊢
  intro y hy
  rcases List.mem_cons.1 (hp.mem_iff.1 hy) with rfl | hy
  ·exact hx
  ·exact h4 y hy
 have hlen:(Zdn d a x).length = d.length:=by unfold Zdn; rw [Zbq]
 have hin:inR ((Zdn d a x).length:Int) 1 8 = true:=by
  rw [hlen]
  unfold Zeb at hg
  simp only [Bool.and_eq_true] at hg
  exact hg.2.1
 unfold Zeb
 rw [ht,hin,hl,List.length_cons,Bool.true_and,Bool.true_and,Bool.and_comm,Bool.eq_iff_iff]
 simp only [Bool.and_eq_true,decide_eq_true_eq,Bool.not_eq_true',decide_eq_false_iff_not,hp.nodup_iff,List.nodup_cons]
 constructor
 ·rintro ⟨⟨h5,_⟩,h6⟩; exact ⟨h5,by omega⟩
 ·rintro ⟨h5,h6⟩; exact ⟨⟨h5,h3⟩,by omega⟩
def ZpJ (d:List (List Int)) (w x:Int):Option (List (List Int)) :=
 if ZeJ d w && (inR x 0 999 && (!decide (x ∈ d.flatten) && !decide (d.flatten.length = 60))) then some (Zdn d w.toNat x) else none
def ZcT (d:List (List Int)) (w x:Int):List (List Int):=(ZpJ d w x).getD []
theorem Zhh {d:List (List Int)} {w:Int} (h:ZeJ d w = true):Zeb d = true ∧ w = ((w.toNat:Nat):Int) ∧ w.toNat < d.length:=by
 unfold ZeJ at h
 rw [Bool.and_eq_true] at h
 have:=Zq7.1 h.2
 exact ⟨h.1,by omega,by omega⟩
theorem Zm1 (d:List (List Int)) (w x:Int):SmallD (ZcT d w x):=by
 unfold ZcT ZpJ
 split
 ·rename_i h
  rw [Bool.and_eq_true] at h
  obtain ⟨h1,h2,h3⟩:=Zhh h.1
  exact Zg1 h3 h1 x
 ·exact Zfu (by simp) (by simp)
theorem ZkW (r:List Int):(intsV r).take r.length = intsV r:=List.take_of_length_le (by rw [ZaA]; exact Nat.le_refl _)
theorem Zn5 (r:List Int) (x:Int):intsV r ++ ([.int .i64 x]:List V) = intsV (r ++ [x]):=by unfold intsV; rw [List.map_append]; rfl
theorem ZxB {d:List (List Int)} (hN:1048580 < N) (hd:SmallD d) (f:Fl) (w x:Int) (k:Nat → Bool → List V → Option R) :
  ZtD N (rowsV fq d) f w x k = k (ZcT d w x).length (ZpJ d w x).isSome (Zbc (ZcT d w x)):=by
 rw [Zo4]
 unfold ZkZ ZcT ZpJ
 have hdl:=hd.len
 have hfl:=Ziv hd
 have hal:=Zhi d.flatten []
 simp only [List.length_nil,Nat.zero_add] at hal
 rw [ZpO N hN hd]
 cases ha:ZeJ d w with
 | false=>rfl
 | true =>
  obtain ⟨hg,hw,hwl⟩:=Zhh ha
  obtain ⟨g1,g2,g3,g4⟩:=ZiR hg
  have hlen:=(ZjJ d.flatten [] (by simp [Srt])).2 ⟨g3,fun y _ hy=>by cases hy⟩
  simp only [List.length_nil,Nat.zero_add] at hlen
  have hmem:decide (x ∈ Zhz [] d.flatten) = decide (x ∈ d.flatten):=by
   simp only [Zok]
   simp
  simp only [Zoj,Zs7 N hN hd,Zvf N (show (Zhz [] d.flatten).length ≤ 1048576 by omega) (show 1048576 < N by omega),hmem,ZaA,hlen,Bool.not_true,Bool.true_and]
  cases inR x 0 999 with
  | false=>rfl
  | true =>
   cases decide (x ∈ d.flatten) with
   | true=>rfl
   | false =>
    by_cases h60:d.flatten.length = 60
    ·rw [decide_eq_true h60,h60]; rfl
    ·rw [decide_eq_false h60,beq_false_of_ne (show (d.flatten.length:Int) ≠ 60 by omega)]
     simp only [Bool.not_true,Bool.not_false,Bool.true_and,if_true,Option.getD_some,Option.isSome_some]
     have hrow:=hd.row _ hwl
     have hil':w.toNat < (Zbc d).length:=by rw [Zdc]; exact hwl
     have hc:((0:Int) ≤ w ∧ w < (d.length:Int)) = True:=eq_true ⟨by omega,by omega⟩
     simp only [ZtK N hN hd,hc,if_true,Nat.zero_add,ZeK hwl,ZuJ,Zmb,ZjI,Zt2,Zu3,ZaA,ZkW,Zn5,ZdL,Zep,hil',Nat.le_refl,ZbY,Zb5 _ (ZaA _),Zag]
     rw [if_pos ⟨trivial,trivial,by omega,by omega⟩]
     have e4:Zao (Zbc d) w.toNat (.uni uI 1 (intsV (at_ d w.toNat ++ [x]))) = Zbc (Zdn d w.toNat x):=ZfQ d _ _
     have e5:(Zdn d w.toNat x).length = d.length:=by unfold Zdn; rw [Zbq]
     have e6:((intsV (at_ d w.toNat ++ [x])).drop 0).take ((at_ d w.toNat).length + 1) = intsV (at_ d w.toNat ++ [x]):=Zb5 _ (by rw [ZaA]; simp)
     have e7:decide ((at_ d w.toNat).length + 1 ≤ (at_ d w.toNat ++ [x]).length) = true:=decide_eq_true (by simp)
     simp only [e6,e7,ZbY,e4,ZdD,Bool.and_true,Zag,e5]
theorem ZxA {d:List (List Int)} (hN:1048580 < N) (hd:SmallD d) (f:Fl) (w x:Int) (k:Nat → Bool → List V → Option R) :
  ZsE N (rowsV fq d) f w x k = k (ZcT d w x).length (ZpJ d w x).isSome (Zbc (ZcT d w x)):=by
 rw [Zor]
 unfold Zkn ZcT ZpJ
 have hdl:=hd.len
 rw [Zqp N hN hd]
 cases ha:ZeJ d w with
 | false=>rfl
 | true =>
  obtain ⟨hg,hw,hwl⟩:=Zhh ha
  rw [ZnQ]
  cases hx:inR x 0 999 with
  | false=>rfl
  | true =>
   have hsm:=Zg1 hwl hg x
   have hgd:=Zqh hwl hg hx
   have hrow:=hd.row _ hwl
   have hil':w.toNat < (Zbc d).length:=by rw [Zdc]; exact hwl
   have hc:((0:Int) ≤ w ∧ w < (d.length:Int)) = True:=eq_true ⟨by omega,by omega⟩
   simp only [Bool.not_true,Bool.true_and,Zqd N hN hd,hc,if_true,Nat.zero_add,ZeK hwl,ZuJ,Zmb,ZjI,Zt2,Zu3,ZaA,ZkW,Zn5,ZdL,Zep,hil',Nat.le_refl,ZbY,Zag]
   rw [if_pos ⟨trivial,trivial,by omega,by omega⟩]
   have e4:Zao (Zbc d) w.toNat (.uni uI 1 (intsV (at_ d w.toNat ++ [x]))) = Zbc (Zdn d w.toNat x):=ZfQ d _ _
   have e5:(Zdn d w.toNat x).length = d.length:=by unfold Zdn; rw [Zbq]
   have e6:((intsV (at_ d w.toNat ++ [x])).drop 0).take ((at_ d w.toNat).length + 1) = intsV (at_ d w.toNat ++ [x]):=Zb5 _ (by rw [ZaA]; simp)
   have e7:decide ((at_ d w.toNat).length + 1 ≤ (at_ d w.toNat ++ [x]).length) = true:=decide_eq_true (by simp)
   have e8:((rowsV .bor (Zdn d w.toNat x)).drop 0).take d.length = rowsV .bor (Zdn d w.toNat x):=Zb5 _ (by rw [ZaZ,e5])
   simp only [e6,e7,ZbY,e4,ZjV,e8,ZkP,Zkw,ZaZ,e5,Nat.le_refl,decide_true,Zg7 N hN hsm,hgd,ZdD,Bool.and_true,Zag]
   cases (!decide (x ∈ d.flatten) && !decide (d.flatten.length = 60)) with
   | false=>rfl
   | true =>
    simp only [Bool.not_true,if_true,Option.getD_some,Option.isSome_some,e5]
theorem law_FnExactPushTo {d:List (List Int)} (hl:DkOk d) (f:Fl) (w x:Int) (k:Bool → Option R):ZgV 1048600 (rowsV fq d) f w x k = k true:=by
 unfold ZgV ZrF
 rw [Zse 1048600 hl (by omega) _ _ (by omega) (by omega)]
 by_cases h2:(dSz d:Int) ≤ 1048576
 ·have hs:=SmallD.of (d:=d) (by omega)
  have hN:1048580 < 1048600:=by omega
  have hN1:1048576 < 1048600:=by omega
  rw [ZsF h2,decide_eq_false (by omega)]
  have hp:=Zm1 d w x
  have hsum:ZaP d d.length ≤ 1048576:=hs.sum
  have hpsum:ZaP (ZcT d w x) (ZcT d w x).length ≤ 1048576:=hp.sum
  obtain ⟨M,m1,m1b,m2,m3⟩:=ZgU 1048600 hN1 1 d hs.len hs.row (by omega)
  obtain ⟨S,s1,s1b,s2,s3⟩:=ZgU 1048600 hN1 1 (ZcT d w x) hp.len hp.row (by omega)
  have m3':∀ {R:Type} (k:Int → List V → Option R),Znw 1048600 d.length 1 (Zbc d) k = k ((1 + ZaP d d.length:Nat):Int) (Zbc M):=m3
  have s3':∀ {R:Type} (k:Int → List V → Option R),Znw 1048600 (ZcT d w x).length 1 (Zbc (ZcT d w x)) k = k ((1 + ZaP (ZcT d w x) (ZcT d w x).length:Nat):Int) (Zbc S):=s3
  have hsame:∀ m,m ≤ (ZcT d w x).length → ZaP S m = ZaP (ZcT d w x) m:=fun m hm=>Zea fun j hj=>s1b j (by omega)
  have hh:∀ (fq f:Fl) {R:Type} (k:Int → Option R),ZpH 1048600 (rowsV fq S) f 1 k = k ((1 + ZaP (ZcT d w x) (ZcT d w x).length:Nat):Int):=fun fq f R k=>by
   have:=Zm7 (fq:=fq) 1048600 hN1 1 S (by rw [s1]; exact hp.len) (fun j hj=>by rw [s1] at hj; rw [s1b j hj]; exact hp.row j hj) (by rw [s1,hsame _ (Nat.le_refl _)]; omega)
    (fun j hj=>by rw [s1] at hj; rw [hsame j (by omega)]; exact s2 j hj) f k
   rw [s1,hsame _ (Nat.le_refl _)] at this
   exact this
  have y0:decide (((1 + ZaP d d.length:Nat):Int) < 0) = false:=decide_eq_false (by omega)
  have z0:decide (((1 + ZaP (ZcT d w x) (ZcT d w x).length:Nat):Int) < 0) = false:=decide_eq_false (by omega)
  simp only [ZqS 1048600 hs hN1,ZjV,Zkw,Zb5 _ (ZaZ d),Zb5 _ (ZaZ (ZcT d w x)),Zb5 _ ((ZaZ S).trans s1),ZkP,ZaZ,s1,ZcF,Bool.and_true,Nat.zero_add,Nat.le_refl,decide_true,Zag,
   ZxB 1048600 hN hs,ZxA 1048600 hN hs,Zla 1048600 hs.len hs.row hN1,Zla 1048600 hp.len hp.row hN1,m3',s3',hh,y0,z0,bne_self_eq_false,beq_self_eq_true,Bool.not_true]
 ·rw [Zms h2]
  rfl
end
end Go.VM.VL
