/- The plain laws of the printed functions, from the bottom up to the law itself. -/
import Derived.Test.YtfebgjdmddegjaaDoorXW
import Derived.Test.YtfebgjdmddegjaaDoorTLib
import Derived.Test.YtfebgjdmddegjaaDoorVmZc
import Derived.Test.YtfebgjdmddegjaaDoorVmZe
import Derived.Lib.Bytealg
import Derived.Lib.IndexLaws
set_option linter.unusedSimpArgs false
set_option linter.unusedVariables false
namespace Go.VM.VL
open Go
section
section loops
variable {R β : Type} {l : Nat → Nat → Option R} {len : Nat} {k0 k1 : Option R}
theorem Zln (hs : ∀ n i, i < len → l (n + 1) i = l n (i + 1)) (he : ∀ n, l (n + 1) len = k1) : ∀ (d n i : Nat), i + d = len → d < n → l n i = k1 := by
 intro d
 induction d with
 | zero =>
  intro n i hi hn
  obtain ⟨n, rfl⟩ : ∃ m, n = m + 1 := ⟨n - 1, by omega⟩
  obtain rfl : i = len := by omega
  exact he n
 | succ d ih =>
  intro n i hi hn
  obtain ⟨n, rfl⟩ : ∃ m, n = m + 1 := ⟨n - 1, by omega⟩
  rw [hs n i (by omega)]
  exact ih n (i + 1) (by omega) (by omega)
theorem ZgM (hs : ∀ n i, i < len → l (n + 1) i = l n (i + 1)) (he : ∀ n, l (n + 1) len = k1) {N : Nat} (hN : len < N) : l N 0 = k1 :=
 Zln hs he len N 0 (by omega) hN
theorem Zma {q : Nat → Option β} {kb : β → Option R} (hs : ∀ n i, i < len → (∀ j, j < i → q j = none) → l (n + 1) i = match q i with | some b => kb b | none => l n (i + 1)) (he : (∀ j, j < len → q j = none) → ∀ n, l (n + 1) len = k1) :
  ∀ (d n i : Nat), i + d = len → d < n → (∀ j, j < i → q j = none) → l n i = match (List.range' i d).findSome? q with | some b => kb b | none => k1 := by
 intro d
 induction d with
 | zero =>
  intro n i hi hn hq
  obtain ⟨n, rfl⟩ : ∃ m, n = m + 1 := ⟨n - 1, by omega⟩
  obtain rfl : i = len := by omega
  rw [he hq n]; rfl
 | succ d ih =>
  intro n i hi hn hq
  obtain ⟨n, rfl⟩ : ∃ m, n = m + 1 := ⟨n - 1, by omega⟩
  rw [hs n i (by omega) hq, List.range'_succ, List.findSome?_cons]
  cases h : q i with
  | none => exact ih n (i + 1) (by omega) (by omega) fun j hj => (by
    rcases Nat.lt_or_ge j i with h2 | h2
    ·exact hq j h2
    ·obtain rfl : j = i := by omega
     exact h)
  | some b => rfl
theorem Zef {q : Nat → Option β} {kb : β → Option R} (hs : ∀ n i, i < len → (∀ j, j < i → q j = none) → l (n + 1) i = match q i with | some b => kb b | none => l n (i + 1)) (he : (∀ j, j < len → q j = none) → ∀ n, l (n + 1) len = k1) {N : Nat} (hN : len < N) :
  l N 0 = match (List.range' 0 len).findSome? q with | some b => kb b | none => k1 :=
 Zma hs he len N 0 (by omega) hN fun j hj => absurd hj (by omega)
theorem Zjb {p : Nat → Bool} (hs : ∀ n i, i < len → (∀ j, j < i → p j = true) → l (n + 1) i = if p i then l n (i + 1) else k0) (he : (∀ j, j < len → p j = true) → ∀ n, l (n + 1) len = k1) {N : Nat} (hN : len < N) :
  l N 0 = if (List.range' 0 len).all p then k1 else k0 := by
 have := Zef (l := l) (len := len) (k1 := k1) (q := fun i => if p i then none else some ()) (kb := fun _ => k0)
  (fun n i hi hq => by
   rw [hs n i hi fun j hj => by
    have := hq j hj
    cases hp : p j with
    | true => rfl
    | false => simp [hp] at this]
   cases p i <;> rfl)
  (fun hq n => he (fun j hj => by
   have := hq j hj
   cases hp : p j with
   | true => rfl
   | false => simp [hp] at this) n) hN
 rw [this]
 generalize List.range' 0 len = L
 clear this hs he
 induction L with
 | nil => rfl
 | cons a L ih =>
  rw [List.findSome?_cons, List.all_cons]
  cases hp : p a with
  | false => simp
  | true => simpa using ih
theorem ZdN {p : Nat → Bool} {len : Nat} : (List.range' 0 len).all p = true ↔ ∀ i, i < len → p i = true := by
 rw [List.all_eq_true]
 exact ⟨fun h i hi => h i (by rw [List.mem_range']; exact ⟨i, hi, by omega⟩), fun h i hi => by
  rw [List.mem_range'] at hi
  obtain ⟨j, hj, rfl⟩ := hi
  exact h _ (by omega)⟩
theorem ZfX {q : Nat → Option β} {len : Nat} : (List.range' 0 len).findSome? q = none ↔ ∀ i, i < len → q i = none := by
 rw [List.findSome?_eq_none_iff]
 exact ⟨fun h i hi => h i (by rw [List.mem_range']; exact ⟨i, hi, by omega⟩), fun h i hi => by
  rw [List.mem_range'] at hi
  obtain ⟨j, hj, rfl⟩ := hi
  exact h _ (by omega)⟩
end loops
theorem ZiR {α β : Type} (f : α → β) (l : List α) (i : Nat) : nth (l.map f) i = (nth l i).map f := by rw [Zad, Zad, List.getElem?_map]
theorem Zsg {α β : Type} (f : α → β) (l : List α) (i : Nat) (v : α) : ZaO (l.map f) i (f v) = (ZaO l i v).map f := by rw [Zbd, Zbd, List.map_set]
theorem ZlW {α : Type} {l : List α} {i : Nat} (h : i < l.length) : nth l i = some l[i] := by rw [Zad, List.getElem?_eq_getElem h]
theorem Zv8 {α : Type} {l : List α} {i : Nat} {v : α} (h : i < l.length) : nth (ZaO l i v) i = some v := by rw [Zad, Zbd, List.getElem?_set_self h]
theorem ZdV {α : Type} {f : α → Option α} : ∀ {l : List α}, (∀ v ∈ l, f v = some v) → ZaX f l = some l
 | [], _ => rfl
 | a :: l, h => by
  simp only [ZaX, h a (by simp), ZdV (l := l) fun v hv => h v (by simp [hv])]
def inR (a b c : Int) : Bool := decide (b ≤ a) && decide (a ≤ c)
theorem Ztt {a b c : Int} : inR a b c = true ↔ b ≤ a ∧ a ≤ c := by simp [inR]
theorem Zbg {i : Nat} (h : i < 9223372036854775807) : IntKind.i64.wrap ((i : Int) + 1) = ((i + 1 : Nat) : Int) := by
 rw [Za7 (by omega) (by omega)]; rfl
theorem Zcs {i n : Nat} (h : i < n) : decide ((i : Int) < (n : Int)) = true := decide_eq_true (by omega)
def ZaD (l : List ByteArray) : List V := l.map V.str
def ZuO (l : List Int) : List V := l.map (V.int .i64)
def at_ {α : Type} [Inhabited α] (l : List α) (i : Nat) : α := l.getD i default
theorem ZbE {α : Type} [Inhabited α] {l : List α} {i : Nat} (h : i < l.length) : at_ l i = l[i] := by
 simp [at_, List.getD_eq_getElem?_getD, List.getElem?_eq_getElem h]
theorem Zhj {α : Type} [Inhabited α] {l : List α} {i : Nat} (h : i < l.length) : at_ l i ∈ l := by rw [ZbE h]; exact List.getElem_mem h
theorem ZaZ (l : List ByteArray) : (ZaD l).length = l.length := by simp [ZaD]
theorem Zzd (l : List Int) : (ZuO l).length = l.length := by simp [ZuO]
theorem ZbA {l : List ByteArray} {i : Nat} (h : i < l.length) : nth (ZaD l) i = some (.str (at_ l i)) := by rw [ZaD, ZiR, ZlW h, ZbE h]; rfl
theorem Zzl {l : List Int} {i : Nat} (h : i < l.length) : nth (ZuO l) i = some (.int .i64 (at_ l i)) := by rw [ZuO, ZiR, ZlW h, ZbE h]; rfl
variable {R : Type}
theorem Zae (v : V) (k : V → Option R) : ZbW (some v) k = k v := rfl
theorem ZbT (b : ByteArray) (k : ByteArray → Option R) : ZaQ (.str b) k = k b := rfl
theorem Zxx (n : Int) (k : Int → Option R) : asInt .i64 (.int .i64 n) k = k n := rfl
theorem Zv9 (b : Bool) (k : Bool → Option R) : asBool (.bool b) k = k b := rfl
variable (N : Nat)
end
section
def ZeH (xs : List V) (z : V) (i : Nat) : List V := xs.take i ++ List.replicate (xs.length - i) z
theorem Zrp (xs : List V) (z : V) {i : Nat} (h : i ≤ xs.length) : (ZeH xs z i).length = xs.length := by
 simp only [ZeH, List.length_append, List.length_take, List.length_replicate]; omega
theorem ZjO (xs : List V) (z : V) {i : Nat} (h : i < xs.length) : nth (ZeH xs z i) i = some z := by
 rw [Zad, ZeH, List.getElem?_append_right (by simp only [List.length_take]; omega)]
 rw [List.getElem?_replicate, if_pos (by simp; omega)]
theorem ZjA (xs : List V) (z v : V) {i : Nat} (h : i < xs.length) (hv : nth xs i = some v) : ZaO (ZeH xs z i) i v = ZeH xs z (i + 1) := by
 have hv' : xs[i]? = some v := by rw [← Zad]; exact hv
 rw [Zbd]
 apply List.ext_getElem?
 intro j
 rw [List.getElem?_set]
 have hlen := Zrp xs z (i := i) (by omega)
 have hT : (xs.take i).length = i := by simp; omega
 have hT2 : (xs.take (i + 1)).length = i + 1 := by simp; omega
 by_cases hij : i = j
 ·subst hij
  rw [if_pos rfl, if_pos (by omega)]
  unfold ZeH
  rw [List.getElem?_append_left (by omega), List.getElem?_take_of_lt (by omega), hv']
 ·rw [if_neg hij]
  unfold ZeH
  rcases Nat.lt_or_ge j i with h2 | h2
  ·rw [List.getElem?_append_left (by omega), List.getElem?_append_left (by omega), List.getElem?_take_of_lt (by omega), List.getElem?_take_of_lt (by omega)]
  ·rw [List.getElem?_append_right (by omega), List.getElem?_append_right (by omega), List.getElem?_replicate, List.getElem?_replicate, hT, hT2]
   by_cases h3 : j - i < xs.length - i
   ·rw [if_pos h3, if_pos (by omega)]
   ·rw [if_neg h3, if_neg (by omega)]
theorem ZqK (xs : List V) (z : V) : ZeH xs z 0 = List.replicate xs.length z := by simp [ZeH]
theorem Zs8 (xs : List V) (z : V) : ZeH xs z xs.length = xs := by simp [ZeH]
variable {R : Type} (N : Nat)
end
section
open Go
abbrev bl (w : ByteArray) : List UInt8 := w.data.toList
def ba (l : List UInt8) : ByteArray := ⟨⟨l⟩⟩
theorem Zhg (w : ByteArray) : ba (bl w) = w := rfl
theorem Zf1 (l : List UInt8) : bl (ba l) = l := rfl
theorem ZaA (w : ByteArray) : w.size = (bl w).length := Array.length_toList.symm
theorem Zd4 (w : ByteArray) (a b : Nat) : bl (ByteArray.extract w a b) = ((bl w).take b).drop a := by
 rw [bl, ByteArray.data_extract, Array.toList_extract, List.extract_eq_take_drop, List.drop_take]
theorem ZbJ (w : ByteArray) (a b : Nat) : ByteArray.extract w a b = ba (((bl w).take b).drop a) := by rw [← Zd4]; rfl
variable {R : Type} (N : Nat)
theorem Zbu (w : ByteArray) {i : Nat} (h : i < (bl w).length) (k : Int → Option R) : ZbZ w (i : Int) k = k ((at_ (bl w) i).toNat : Int) := by
 unfold ZbZ
 rw [if_pos (by omega), Int.toNat_natCast]
 have e : w.data[i]? = some (bl w)[i] := by rw [← Array.getElem?_toList, List.getElem?_eq_getElem h]
 rw [e, ZbE h]
theorem ZA7 (a b c : Int) (k : Bool → Option R) : Zvl N a b c k = k (inR a b c) := by
 rw [Zop]
 unfold Zk1 inR
 by_cases h : b ≤ a
 ·rw [decide_eq_true (show a ≥ b from h)]; simp
 ·rw [decide_eq_false (show ¬ a ≥ b from h)]; simp
theorem Zxn (a b c : Int) (k : Bool → Option R) : Zs9 N a b c k = k (inR a b c) := by
 rw [Zpp]
 unfold Zjz inR
 by_cases h : b ≤ a
 ·rw [decide_eq_true (show a ≥ b from h)]; simp
 ·rw [decide_eq_false (show ¬ a ≥ b from h)]; simp
def Zgd (n : Int) : Bool := (!decide (n < 97) && !decide (n > 122)) || (!decide (n < 48) && !decide (n > 57)) || (n == 46) || (n == 95) || (n == 45)
def ZfR (w : ByteArray) : Bool := (List.range' 0 w.size).all fun i => Zgd ((at_ (bl w) i).toNat : Int)
def Zc0 (w : ByteArray) : Bool := ZfR w && inR (w.size : Int) 1 8
def Zhu (w : ByteArray) : Bool := w.toList == (ByteArray.mk #[46]).toList
def ZbI (w : ByteArray) : Bool := w.toList == (ByteArray.mk #[46, 46]).toList
def ZbH (w : ByteArray) : Bool := w.toList == (ByteArray.mk #[]).toList
def Zdv (w : ByteArray) : Bool := Zc0 w && !Zhu w && !ZbI w
theorem Zcq (w : ByteArray) : ZbH w = decide (w.size = 0) := by
 unfold ZbH
 rw [ByteArray.toList_eq, ByteArray.toList_eq, ZaA]
 cases h : bl w with
 | nil => rw [show w.data.toList = [] from h]; rfl
 | cons a l => rw [show w.data.toList = a :: l from h]; rfl
theorem ZBi {w : ByteArray} (hw : w.size ≤ 1048576) (hN : 1048576 < N) (k : Bool → Option R) : Zt3 N w k = k (Zdv w) := by
 rw [ZoY]
 unfold Zj2
 rw [Zxn]
 refine (Zjb (l := fun n i => ZdX N w _ _ n (i : Int)) (len := w.size) (p := fun i => Zgd ((at_ (bl w) i).toNat : Int)) (k0 := k false) (k1 := (match inR (w.size : Int) 1 8 with
  | true => (match (!(w.toList == (ByteArray.mk #[46]).toList)) with
   | true => k (!(w.toList == (ByteArray.mk #[46, 46]).toList))
   | false => k false)
  | false => k false)) ?_ ?_ (show w.size < N by omega)).trans ?_
 ·intro n i hi _
  simp only [ZdX, ZcE, Zcs hi]
  rw [Zbu w (by rw [← ZaA]; exact hi), Zbg (i := i) (by omega)]
  generalize ZdX N w _ _ n ((i + 1 : Nat) : Int) = X
  generalize ((at_ (bl w) i).toNat : Int) = x
  unfold Zgd
  simp only [bne]
  generalize decide (x < 97) = a
  generalize decide (x > 122) = b
  generalize decide (x < 48) = c
  generalize decide (x > 57) = d
  generalize (x == 46) = e
  generalize (x == 95) = f
  generalize (x == 45) = g
  cases a <;> cases b <;> cases c <;> cases d <;> cases e <;> cases f <;> cases g <;> rfl
 ·intro _ n
  simp only [ZdX, ZcE, Int.lt_irrefl, decide_false]
  rfl
 ·show (if ZfR w = true then _ else _) = _
  unfold Zdv Zc0 Zhu ZbI
  cases ZfR w <;> cases inR (w.size : Int) 1 8 <;> cases (w.toList == (ByteArray.mk #[46]).toList) <;> cases (w.toList == (ByteArray.mk #[46, 46]).toList) <;> rfl
theorem ZjC (x : Int) (k : Bool → Option R) : Zvm N x k = k (Zgd x) := by
 rw [Zpa]
 unfold Zkw Zgd
 rw [show decide (x ≥ 97) = !decide (x < 97) by by_cases h : x < 97 <;> simp [h] <;> omega, show decide (x ≤ 122) = !decide (x > 122) by by_cases h : x > 122 <;> simp [h] <;> omega,
  show decide (x ≥ 48) = !decide (x < 48) by by_cases h : x < 48 <;> simp [h] <;> omega, show decide (x ≤ 57) = !decide (x > 57) by by_cases h : x > 57 <;> simp [h] <;> omega]
 generalize decide (x < 97) = a
 generalize decide (x > 122) = b
 generalize decide (x < 48) = c
 generalize decide (x > 57) = d
 generalize (x == 46) = e
 generalize (x == 95) = f
 generalize (x == 45) = g
 cases a <;> cases b <;> cases c <;> cases d <;> cases e <;> cases f <;> cases g <;> rfl
theorem Zpy {w : ByteArray} {i : Nat} (h : i < (bl w).length) : nth (Zco w) i = some (.int .u8 ((at_ (bl w) i).toNat : Int)) := by
 rw [Zco, ZiR, ZlW h, ZbE h]; rfl
theorem ZpG (w : ByteArray) : (Zco w).length = w.size := by rw [Zco, List.length_map]; exact Array.length_toList
theorem ZvU (n : Int) (k : Int → Option R) : asInt .u8 (.int .u8 n) k = k n := rfl
def ZeD (q : Nat → Bool) (len : Nat) : Int := match (List.range' 0 len).findSome? (fun i => if q i then some i else none) with | some i => (i : Int) | none => -1
theorem Zgg {q : Nat → Bool} {len : Nat} : decide (ZeD q len ≥ 0) = !(List.range' 0 len).all (fun i => !q i) := by
 unfold ZeD
 cases h : (List.range' 0 len).findSome? (fun i => if q i then some i else none) with
 | none =>
  have h2 : (List.range' 0 len).all (fun i => !q i) = true := ZdN.2 fun i hi => by
   have := ZfX.1 h i hi
   cases hq : q i with
   | true => simp [hq] at this
   | false => rfl
  rw [h2]; rfl
 | some j =>
  have h2 : ¬ (List.range' 0 len).all (fun i => !q i) = true := fun h2 => by
   have h3 : (List.range' 0 len).findSome? (fun i => if q i then some i else none) = none := ZfX.2 fun i hi => by
    have := ZdN.1 h2 i hi
    cases hq : q i with
    | true => simp [hq] at this
    | false => rfl
   rw [h] at h3; cases h3
  rw [Bool.eq_false_iff.2 h2]
  simp
theorem ZoE {w : ByteArray} (hw : w.size ≤ 1048576) (hN : 1048576 < N) (k : Bool → Option R) : Zs1 N w k = k (Zc0 w) := by
 rw [ZnT]
 unfold Zke
 rw [ZA7]
 have hc : ∀ K : Bool → Option R, ZuB N (Zco w) .sh K = K (!ZfR w) := by
  intro K
  rw [Zo1]
  unfold Zj4
  rw [Znx]
  unfold Zkk
  rw [ZpG]
  refine (Zef (β := Nat) (l := fun n i => ZeT N (Zco w) _ (w.size : Int) _ _ n (i : Int)) (len := w.size) (q := fun i => if !Zgd ((at_ (bl w) i).toNat : Int) then some i else none) (kb := fun i => K (decide ((i : Int) ≥ 0))) (k1 := K (decide ((-1 : Int) ≥ 0))) ?_ ?_ (show w.size < N by omega)).trans ?_
  ·intro n i hi _
   have hi' : i < (bl w).length := by rw [← ZaA]; exact hi
   simp only [ZeT, ZcF, Zcs hi, Int.natCast_nonneg, if_true, Int.toNat_natCast, Zpy hi', Zae, ZvU]
   rw [Zon]
   unfold ZjP
   rw [ZjC, Zbg (i := i) (by omega)]
   cases Zgd ((at_ (bl w) i).toNat : Int) <;> rfl
  ·intro _ n
   simp only [ZeT, ZcF, Int.lt_irrefl, decide_false]
  ·have := Zgg (q := fun i => !Zgd ((at_ (bl w) i).toNat : Int)) (len := w.size)
   unfold ZeD at this
   unfold ZfR
   simp only [Bool.not_not] at this
   rw [← this]
   generalize (List.range' 0 w.size).findSome? _ = o
   cases o <;> rfl
 simp only [hc]
 unfold Zc0
 cases ZfR w <;> cases inR (w.size : Int) 1 8 <;> rfl
theorem Zq8 {w : ByteArray} (hw : w.size ≤ 1048576) (hN : 1048576 < N) (k : Bool → Option R) : ZsN N w k = k (Zdv w) := by
 rw [ZoO]
 unfold ZjZ
 rw [ZoE N hw hN]
 rw [ZnN]
 unfold Zka Zdv Zhu ZbI
 cases Zc0 w <;> cases (w.toList == (ByteArray.mk #[46]).toList) <;> cases (w.toList == (ByteArray.mk #[46, 46]).toList) <;> rfl
end
section
open Go
def ZaU (c : UInt8) : List UInt8 → List (List UInt8)
 | [] => [[]]
 | b :: l => if b = c then [] :: ZaU c l else match ZaU c l with
  | p :: ps => (b :: p) :: ps
  | [] => [[b]]
theorem Zcl (c : UInt8) : ∀ l, ZaU c l ≠ []
 | [] => by simp [ZaU]
 | b :: l => by
  unfold ZaU
  split
  ·simp
  ·split <;> simp
theorem ZcX (c : UInt8) : ∀ l, (ZaU c l).length = l.count c + 1
 | [] => rfl
 | b :: l => by
  have ih := ZcX c l
  unfold ZaU
  split
  ·rename_i h
   rw [List.length_cons, ih, h, List.count_cons_self]
  ·rename_i h
   rw [List.count_cons_of_ne h]
   cases h2 : ZaU c l with
   | nil => exact absurd h2 (Zcl c l)
   | cons p ps => rw [h2] at ih; exact ih
def Zuy (x : List UInt8) : List (List UInt8) → List (List UInt8)
 | p :: ps => (x ++ p) :: ps
 | [] => [x]
theorem ZbV {c b : UInt8} (h : b = c) (l : List UInt8) : ZaU c (b :: l) = [] :: ZaU c l := by rw [ZaU, if_pos h]
theorem ZbK {c b : UInt8} (h : b ≠ c) (l : List UInt8) : ZaU c (b :: l) = Zuy [b] (ZaU c l) := by
 conv => lhs; unfold ZaU
 rw [if_neg h]
 cases ZaU c l <;> rfl
theorem ZsQ (x y : List UInt8) (ps : List (List UInt8)) (h : ps ≠ []) : Zuy x (Zuy y ps) = Zuy (x ++ y) ps := by
 cases ps with
 | nil => exact absurd rfl h
 | cons p ps => simp [Zuy]
def Zem (c : UInt8) (l : List UInt8) : Nat → List (List UInt8) × Nat
 | 0 => ([], 0)
 | i + 1 => if at_ l i = c then ((Zem c l i).1 ++ [(l.take i).drop (Zem c l i).2], i + 1) else Zem c l i
theorem Zgs (c : UInt8) (l : List UInt8) : ∀ i, (Zem c l i).2 ≤ i ∧ (Zem c l i).1.length ≤ i
 | 0 => ⟨Nat.le_refl _, Nat.le_refl _⟩
 | i + 1 => by
  have := Zgs c l i
  unfold Zem
  split
  ·simp; omega
  ·omega
theorem Zny (c : UInt8) (l : List UInt8) : ∀ i, i ≤ l.length → (Zem c l i).1 ++ Zuy ((l.take i).drop (Zem c l i).2) (ZaU c (l.drop i)) = ZaU c l
 | 0, _ => by
  simp only [Zem, List.drop_zero, List.take_zero, List.nil_append]
  cases h : ZaU c l with
  | nil => exact absurd h (Zcl c l)
  | cons p ps => rfl
 | i + 1, hi => by
  have ih := Zny c l i (by omega)
  have hlt : i < l.length := by omega
  have hle := (Zgs c l i).1
  rw [List.drop_eq_getElem_cons hlt] at ih
  unfold Zem
  by_cases h : at_ l i = c
  ·rw [ZbE hlt] at h
   rw [ZbV h] at ih
   rw [ZbE hlt, if_pos h]
   simp only [List.append_assoc]
   rw [← ih]
   congr 1
   have e : (l.take (i + 1)).drop (i + 1) = [] := by
    apply List.drop_eq_nil_of_le
    simp only [List.length_take]; omega
   simp only [e, Zuy, List.append_nil, List.singleton_append]
   congr 1
   cases h2 : ZaU c (l.drop (i + 1)) with
   | nil => exact absurd h2 (Zcl c _)
   | cons p ps => rfl
  ·rw [ZbE hlt] at h
   rw [ZbK h, ZsQ _ _ _ (Zcl c _)] at ih
   rw [ZbE hlt, if_neg h, ← ih]
   congr 2
   rw [List.take_succ_eq_append_getElem hlt, List.drop_append_of_le_length (by simp only [List.length_take]; omega)]
theorem ZsR (c : UInt8) (l : List UInt8) : (Zem c l l.length).1 ++ [l.drop (Zem c l l.length).2] = ZaU c l := by
 have := Zny c l l.length (Nat.le_refl _)
 simpa [ZaU, Zuy] using this
def Za0 (w : ByteArray) : List ByteArray := (ZaU 47 (bl w)).map ba
def ZaM (w : ByteArray) : List ByteArray := (Za0 w).filter fun p => !ZbH p
theorem ZfW (w : ByteArray) : (Za0 w).length ≤ w.size + 1 := by
 unfold Za0
 rw [List.length_map, ZcX, ZaA]
 have := List.count_le_length (a := (47 : UInt8)) (l := bl w)
 omega
theorem Zd7 (w : ByteArray) : (ZaM w).length ≤ w.size + 1 := Nat.le_trans (List.length_filter_le _ _) (ZfW w)
theorem Zer (c : UInt8) : ∀ l, ∀ p ∈ ZaU c l, p.length ≤ l.length
 | [], p, h => by simp [ZaU] at h; subst h; exact Nat.le_refl _
 | b :: l, p, h => by
  have ih := Zer c l
  by_cases hb : b = c
  ·rw [ZbV hb] at h
   rcases List.mem_cons.1 h with rfl | h
   ·simp
   ·have := ih p h; rw [List.length_cons]; omega
  ·rw [ZbK hb] at h
   cases h2 : ZaU c l with
   | nil => exact absurd h2 (Zcl c l)
   | cons q qs =>
    rw [h2] at h ih
    rcases List.mem_cons.1 h with rfl | h
    ·have := ih q (by simp)
     simp; omega
    ·have := ih p (by simp [h]); rw [List.length_cons]; omega
theorem ZeM {w p : ByteArray} (h : p ∈ ZaM w) : p.size ≤ w.size := by
 obtain ⟨q, hq, rfl⟩ := List.mem_map.1 (List.mem_filter.1 h).1
 rw [ZaA, ZaA, Zf1]
 exact Zer 47 _ _ hq
variable {R : Type} (N : Nat)
theorem Zsu {b c : UInt8} : ((b.toNat : Int) == (c.toNat : Int)) = decide (b = c) := by
 by_cases h : b = c
 ·subst h; simp
 ·rw [decide_eq_false h]
  apply beq_false_of_ne
  intro h2
  exact h (UInt8.toNat_inj.1 (by omega))
theorem Zrj {w : ByteArray} (hw : w.size ≤ 1048576) (hN : 1048580 < N) (k : List V → Option R) : Zvh N w 47 k = k (ZaD (Za0 w)) := by
 rw [Zpk]
 unfold Zlq
 refine ZgM (l := fun n i => ZeG N w 47 _ n (ZaD ((Zem 47 (bl w) i).1.map ba)) ((Zem 47 (bl w) i).2 : Int) (i : Int)) (len := w.size) (k1 := k (ZaD (Za0 w))) ?_ ?_ (show w.size < N by omega)
 ·intro n i hi
  have hi' : i < (bl w).length := by rw [← ZaA]; exact hi
  have hle := Zgs 47 (bl w) i
  simp only [ZeG, ZcH, Zcs hi, Zbu w hi']
  rw [show (47 : Int) = ((47 : UInt8).toNat : Int) from rfl, Zsu, Zbg (i := i) (by omega)]
  by_cases h : at_ (bl w) i = 47
  ·rw [decide_eq_true h]
   simp only [Zem, if_pos h]
   rw [if_pos ⟨by omega, by omega⟩, if_pos ⟨by omega, by omega⟩, if_pos (by rw [ZaZ, List.length_map]; omega), ZbJ]
   simp only [Int.toNat_natCast, ZaD, List.map_append, List.map_cons, List.map_nil]
  ·rw [decide_eq_false h]
   simp only [Zem, if_neg h]
 ·intro n
  have hle := Zgs 47 (bl w) w.size
  simp only [ZeG, ZcH, Int.lt_irrefl, decide_false]
  rw [if_pos ⟨by omega, by omega⟩, if_pos (by rw [ZaZ, List.length_map]; omega), ZbJ]
  have := ZsR 47 (bl w)
  rw [← ZaA] at this
  unfold Za0
  rw [← this, List.take_of_length_le (by rw [ZaA]; exact Nat.le_refl _)]
  simp only [Int.toNat_natCast, ZaD, List.map_append, List.map_cons, List.map_nil]
theorem Zc4 {α : Type} [Inhabited α] (p : α → Bool) (l : List α) {i : Nat} (h : i < l.length) : (l.take (i + 1)).filter p = (l.take i).filter p ++ if p (at_ l i) then [at_ l i] else [] := by
 rw [List.take_succ_eq_append_getElem h, List.filter_append, ZbE h]
 congr 1
 rw [List.filter_cons]
 split <;> rfl
theorem Zj9 {w : ByteArray} (hw : w.size ≤ 1048576) (hN : 1048580 < N) (k : List V → Option R) : Zs2 N w k = k (ZaD (ZaM w)) := by
 rw [ZnP]
 unfold ZjX
 rw [Zrj N hw hN, ZaZ]
 have hl := ZfW w
 refine ZgM (l := fun n i => ZeL N (ZaD (Za0 w)) ((Za0 w).length : Int) _ n (ZaD (((Za0 w).take i).filter fun p => !ZbH p)) (i : Int)) (len := (Za0 w).length) (k1 := k (ZaD (ZaM w))) ?_ ?_ (show (Za0 w).length < N by omega)
 ·intro n i hi
  simp only [ZeL, ZcM, Zcs hi, Int.natCast_nonneg, if_true, Int.toNat_natCast, ZbA hi, Zae, ZbT]
  rw [Zbg (i := i) (by omega), Zc4 _ _ hi]
  have hlf : (((Za0 w).take i).filter fun p => !ZbH p).length ≤ i := Nat.le_trans (List.length_filter_le _ _) (by rw [List.length_take]; omega)
  cases h : ZbH (at_ (Za0 w) i) with
  | true =>
   rw [show ((at_ (Za0 w) i).toList == (ByteArray.mk #[]).toList) = true from h]
   simp
  | false =>
   rw [show ((at_ (Za0 w) i).toList == (ByteArray.mk #[]).toList) = false from h, if_pos (by rw [ZaZ]; omega)]
   simp [ZaD]
 ·intro n
  simp only [ZeL, ZcM, Int.lt_irrefl, decide_false]
  rw [List.take_of_length_le (Nat.le_refl _)]
  rfl
def ZbQ (w : ByteArray) : Bool := (ZaM w).all Zc0 && inR (w.size : Int) 1 60
theorem ZvV {w : ByteArray} (h : Zhu w = true) : Zc0 w = true := by
 unfold Zhu at h
 rw [beq_iff_eq, ByteArray.toList_eq, ByteArray.toList_eq] at h
 have : w = ba [46] := by rw [← Zhg w, show bl w = _ from h]
 subst this
 decide
theorem Zsf {w : ByteArray} (h : ZbI w = true) : Zc0 w = true := by
 unfold ZbI at h
 rw [beq_iff_eq, ByteArray.toList_eq, ByteArray.toList_eq] at h
 have : w = ba [46, 46] := by rw [← Zhg w, show bl w = _ from h]
 subst this
 decide
theorem Ze8 {w : ByteArray} (hw : w.size ≤ 1048576) (hN : 1048580 < N) (k : Bool → Option R) : ZjQ N w k = k (ZbQ w) := by
 rw [ZoG]
 unfold Zjx
 rw [Zj9 N hw hN, ZaZ]
 have hl := Zd7 w
 refine (Zjb (l := fun n i => ZeP N w (ZaD (ZaM w)) ((ZaM w).length : Int) (fun _ => k false) _ n (i : Int)) (len := (ZaM w).length) (p := fun i => Zc0 (at_ (ZaM w) i)) (k0 := k false) (k1 := k (inR (w.size : Int) 1 60)) ?_ ?_ (show (ZaM w).length < N by omega)).trans ?_
 ·intro n i hi _
  have hsz : (at_ (ZaM w) i).size ≤ 1048576 := Nat.le_trans (ZeM (Zhj hi)) hw
  simp only [ZeP, ZcN, Zcs hi, Int.natCast_nonneg, if_true, Int.toNat_natCast, ZbA hi, Zae, ZbT, ZBi N hsz (by omega : 1048576 < N)]
  rw [Zbg (i := i) (by omega)]
  have h1 := @ZvV (at_ (ZaM w) i)
  have h2 := @Zsf (at_ (ZaM w) i)
  unfold Zdv
  unfold Zhu ZbI at *
  generalize ((at_ (ZaM w) i).toList == (ByteArray.mk #[46]).toList) = b at *
  generalize ((at_ (ZaM w) i).toList == (ByteArray.mk #[46, 46]).toList) = c at *
  generalize Zc0 (at_ (ZaM w) i) = a at *
  cases a <;> cases b <;> cases c <;> first | rfl | exact absurd (h1 rfl) (by decide) | exact absurd (h2 rfl) (by decide)
 ·intro _ n
  simp only [ZeP, ZcN, Int.lt_irrefl, decide_false, Zxn]
 ·unfold ZbQ
  have e : (List.range' 0 (ZaM w).length).all (fun i => Zc0 (at_ (ZaM w) i)) = (ZaM w).all Zc0 := by
   rw [Bool.eq_iff_iff, ZdN, List.all_eq_true]
   exact ⟨fun h p hp => by
    obtain ⟨i, hi, rfl⟩ := List.getElem_of_mem hp
    rw [← ZbE hi]
    exact h i hi, fun h i hi => h _ (Zhj hi)⟩
  rw [e]
  cases (ZaM w).all Zc0 <;> rfl
theorem Zba {w : ByteArray} (h : ZbQ w = true) : 1 ≤ w.size ∧ w.size ≤ 60 := by
 unfold ZbQ at h
 rw [Bool.and_eq_true, Ztt] at h
 omega
def Zbo (w : ByteArray) : Bool := ZbQ w && (((at_ (bl w) 0).toNat : Int) == 47)
end
section
open Go
theorem ZdB (c : UInt8) : ∀ (l : List UInt8) (m : Nat), Lib.indexByte l c = (m : Int) → m < l.length ∧ ZaU c l = l.take m :: ZaU c (l.drop (m + 1))
 | [], m, h => by simp [Lib.indexByte] at h
 | b :: l, m, h => by
  unfold Lib.indexByte at h
  by_cases hb : b = c
  ·rw [if_pos (by simp [hb])] at h
   obtain rfl : m = 0 := by omega
   exact ⟨by simp, by rw [ZbV hb]; rfl⟩
  ·rw [if_neg (by simp [hb])] at h
   have hge := Lib.indexByte_ge l c
   by_cases h1 : Lib.indexByte l c = -1
   ·rw [if_pos (by simp [h1])] at h; omega
   ·rw [if_neg (by simp [h1])] at h
    obtain ⟨m, rfl⟩ : ∃ k, m = k + 1 := ⟨m - 1, by omega⟩
    obtain ⟨h2, h3⟩ := ZdB c l m (by omega)
    refine ⟨by rw [List.length_cons]; omega, ?_⟩
    rw [ZbK hb, h3]
    rfl
theorem ZfK (c : UInt8) : ∀ (l : List UInt8), Lib.indexByte l c = -1 → ZaU c l = [l]
 | [], h => rfl
 | b :: l, h => by
  unfold Lib.indexByte at h
  by_cases hb : b = c
  ·rw [if_pos (by simp [hb])] at h; omega
  ·rw [if_neg (by simp [hb])] at h
   have hge := Lib.indexByte_ge l c
   by_cases h1 : Lib.indexByte l c = -1
   ·rw [ZbK hb, ZfK c l h1]; rfl
   ·rw [if_neg (by simp [h1])] at h; omega
def ZcO (l : List UInt8) : Nat → List UInt8
 | 0 => l
 | i + 1 => (ZcO l i).drop ((Lib.indexByte (ZcO l i) 47).toNat + 1)
theorem Zo4 (l : List UInt8) : ∀ i, i ≤ l.count 47 → ZaU 47 (ZcO l i) = (ZaU 47 l).drop i ∧ (i < l.count 47 → ∃ m : Nat, Lib.indexByte (ZcO l i) 47 = m)
  ∧ (ZcO l i).length ≤ l.length := by
 have idx : ∀ (r : List UInt8), 2 ≤ (ZaU 47 r).length → ∃ m : Nat, Lib.indexByte r 47 = m := fun r h => by
  have := Lib.indexByte_ge r 47
  by_cases h1 : Lib.indexByte r 47 = -1
  ·rw [ZfK 47 r h1] at h; simp at h
  ·exact ⟨(Lib.indexByte r 47).toNat, by omega⟩
 intro i
 induction i with
 | zero => exact fun _ => ⟨rfl, fun h => idx l (by rw [ZcX]; omega), Nat.le_refl _⟩
 | succ i ih =>
  intro hi
  obtain ⟨h1, h2, h3⟩ := ih (by omega)
  obtain ⟨m, hm⟩ := h2 (by omega)
  obtain ⟨h4, h5⟩ := ZdB 47 _ m hm
  have e : ZaU 47 (ZcO l (i + 1)) = (ZaU 47 l).drop (i + 1) := by
   have : (ZaU 47 (ZcO l i)).drop 1 = ZaU 47 (ZcO l (i + 1)) := by
    rw [h5]
    show _ = ZaU 47 ((ZcO l i).drop ((Lib.indexByte (ZcO l i) 47).toNat + 1))
    rw [hm]; rfl
   rw [← this, h1, List.drop_drop]
  refine ⟨e, fun h => idx _ (by rw [e, List.length_drop, ZcX]; omega), ?_⟩
  show ((ZcO l i).drop _).length ≤ _
  rw [List.length_drop]; omega
variable {R : Type} (N : Nat)
def sl : ByteArray := ByteArray.mk #[47]
theorem ZwK (w : ByteArray) (k : Int → Option R) : ZtB N w (ByteArray.mk #[47]) k = k (Lib.indexByte (bl w) 47) := by
 rw [Zo6]
 unfold Zlf
 rw [Zob]
 unfold ZkQ
 show (match ((ByteArray.mk #[47]).toList == w.toList) with | true => k 0 | false => _) = _
 cases h : ((ByteArray.mk #[47]).toList == w.toList) with
 | true =>
  rw [beq_iff_eq, ByteArray.toList_eq, ByteArray.toList_eq] at h
  show k 0 = k (Lib.indexByte w.data.toList 47)
  rw [← h]; rfl
 | false =>
  show Zt4 N w _ _ = _
  rw [Zoa]
  unfold ZjG
  rw [Zpn]
  rfl
theorem ZwH (w : ByteArray) (k : Int → Option R) : Zrk N w (ByteArray.mk #[47]) k = k (((bl w).count 47 : Nat) : Int) := by
 rw [Zot]
 unfold Zkf
 show Zuf N w _ _ = _
 rw [Zox]
 rfl
theorem ZcV (l : List ByteArray) : ZaN (ZaD l) = true := by
 unfold ZaN
 rw [List.all_eq_true]
 intro v hv
 obtain ⟨s, _, rfl⟩ := List.mem_map.1 hv
 rfl
theorem ZnM (w : ByteArray) {i : Nat} (hi : i < (Za0 w).length) : (ZaU 47 (bl w)).drop i = bl (at_ (Za0 w) i) :: (ZaU 47 (bl w)).drop (i + 1) := by
 have hi' : i < (ZaU 47 (bl w)).length := by unfold Za0 at hi; rwa [List.length_map] at hi
 rw [List.drop_eq_getElem_cons hi', ZbE hi]
 simp only [Za0, List.getElem_map, Zf1]
theorem Zw8 {w : ByteArray} (hw : w.size ≤ 1048576) (hN : 1048580 < N) (k0 : List V → Option R) (k1 : Nat → List V → Option R) :
  ZuM N w (ByteArray.mk #[47]) k0 k1 = k1 (Za0 w).length (ZaD (Za0 w)) := by
 rw [ZnE]
 unfold Zjv
 rw [ZoS]
 unfold ZkL
 let c := (bl w).count 47
 have hc : c ≤ w.size := by rw [ZaA]; exact List.count_le_length
 have hL : (Za0 w).length = c + 1 := by unfold Za0; rw [List.length_map, ZcX]
 rw [show ((ByteArray.mk #[47]).toList == (ByteArray.mk #[]).toList) = false by rw [ByteArray.toList_eq, ByteArray.toList_eq]; rfl]
 show Zrk N w (ByteArray.mk #[47]) _ = _
 rw [ZwH]
 show _ = k1 (Za0 w).length (ZaD (Za0 w))
 rw [Za7 (x := (w.size : Int) + 1) (by omega) (by omega), Za7 (x := (((bl w).count 47 : Nat) : Int) + 1) (by omega) (by omega)]
 have hif : (if (w.size : Int) + 1 < (((bl w).count 47 : Nat) : Int) + 1 then (w.size : Int) + 1 else (((bl w).count 47 : Nat) : Int) + 1) = ((c + 1 : Nat) : Int) := by
  rw [if_neg (by omega)]; rfl
 rw [hif, if_pos ⟨by omega, rfl, by omega⟩, Int.toNat_natCast, Za7 (x := ((c + 1 : Nat) : Int) - 1) (by omega) (by omega)]
 have hlim : ((c + 1 : Nat) : Int) - 1 = (c : Int) := by omega
 rw [hlim]
 let z : V := .str (ByteArray.mk #[])
 have hlen : (ZaD (Za0 w)).length = c + 1 := by rw [ZaZ, hL]
 rw [show List.replicate (c + 1) (V.str (ByteArray.mk #[])) = ZeH (ZaD (Za0 w)) z 0 by rw [ZqK, hlen]]
 refine ZgM (l := fun n i => ZdT N (ByteArray.mk #[47]) 0 (c : Int) (c + 1) _ n (ba (ZcO (bl w) i)) (i : Int) (ZeH (ZaD (Za0 w)) z i)) (len := c) (k1 := k1 (Za0 w).length (ZaD (Za0 w))) ?_ ?_ (show c < N by omega)
 ·intro n i hi
  obtain ⟨h1, h2, h3⟩ := Zo4 (bl w) i (by omega)
  obtain ⟨m, hm⟩ := h2 hi
  obtain ⟨h4, h5⟩ := ZdB 47 _ m hm
  have hi' : i < (Za0 w).length := by omega
  rw [h1, ZnM w hi'] at h5
  have hp : bl (at_ (Za0 w) i) = (ZcO (bl w) i).take m := (List.cons.inj h5).1
  have hsz : (ba (ZcO (bl w) i)).size = (ZcO (bl w) i).length := ZaA _
  rw [← ZaA] at h3
  simp only [ZdT, ZcK, Zcs hi, ZwK, Zf1, hm]
  rw [decide_eq_false (by omega)]
  simp only
  rw [show (m : Int) + 0 = m by omega, Za7 (x := (m : Int)) (by omega) (by omega), if_pos ⟨by omega, by omega⟩, if_pos ⟨by omega, by omega⟩]
  rw [show ((ByteArray.mk #[47]).size : Int) = 1 from rfl, Zbg (i := m) (by omega), Zbg (i := i) (by omega)]
  simp only [Int.toNat_natCast, Nat.zero_add, ZjO (ZaD (Za0 w)) z (by rw [hlen]; omega : i < _)]
  have hput : ∀ b, Zb9 z 0 [.str b] = some (.str b) := fun b => rfl
  simp only [hput]
  rw [if_pos ⟨by omega, by omega⟩, ZbJ, ZbJ, Zf1, List.drop_zero, ← hp, Zhg, ZjA _ _ _ (by rw [hlen]; omega) (ZbA hi'),
   List.take_of_length_le (by rw [hsz]; exact Nat.le_refl _)]
  have hr : ZcO (bl w) (i + 1) = (ZcO (bl w) i).drop (m + 1) := by
   show (ZcO (bl w) i).drop ((Lib.indexByte (ZcO (bl w) i) 47).toNat + 1) = _
   rw [hm]; rfl
  rw [hr]
 ·intro n
  obtain ⟨h1, h2, h3⟩ := Zo4 (bl w) c (Nat.le_refl _)
  simp only [ZdT, ZcK, Int.lt_irrefl, decide_false]
  rw [if_pos ⟨by omega, by omega⟩]
  simp only [Int.toNat_natCast, Nat.zero_add, ZjO (ZaD (Za0 w)) z (by rw [hlen]; omega : c < _)]
  have hput : ∀ b, Zb9 z 0 [.str b] = some (.str b) := fun b => rfl
  simp only [hput]
  have hlast : nth (ZaD (Za0 w)) c = some (.str (ba (ZcO (bl w) c))) := by
   rw [ZbA (by omega)]
   rw [ZnM w (by omega), List.drop_eq_nil_of_le (by rw [ZcX]; exact Nat.le_refl _)] at h1
   have h6 : ZaU 47 (ZcO (bl w) c) = [ZcO (bl w) c] := by
    apply ZfK
    have := Lib.indexByte_ge (ZcO (bl w) c) 47
    by_cases h7 : Lib.indexByte (ZcO (bl w) c) 47 = -1
    ·exact h7
    ·obtain ⟨m, hm⟩ : ∃ m : Nat, Lib.indexByte (ZcO (bl w) c) 47 = m := ⟨(Lib.indexByte (ZcO (bl w) c) 47).toNat, by omega⟩
     obtain ⟨_, h8⟩ := ZdB 47 _ m hm
     rw [h1] at h8
     exact absurd (List.cons.inj h8).2.symm (Zcl 47 _)
   rw [h6] at h1
   rw [(List.cons.inj h1).1, Zhg]
  rw [ZjA _ _ _ (by rw [hlen]; omega) hlast, show ZeH (ZaD (Za0 w)) z (c + 1) = ZaD (Za0 w) by rw [← hlen]; exact Zs8 _ _,
   Zbg (i := c) (by omega), if_pos ⟨by omega, by omega⟩, ZcV, hL]
  rfl
def Zbw (L : List ByteArray) : List ByteArray := L.filter fun p => !ZbH p
def Znt (L : List ByteArray) (j : Nat) : List ByteArray := Zbw (L.take j) ++ L.drop (Zbw (L.take j)).length
theorem ZgA (L : List ByteArray) (j : Nat) : (Zbw (L.take j)).length ≤ j := Nat.le_trans (List.length_filter_le _ _) (by rw [List.length_take]; omega)
theorem ZiB {L : List ByteArray} {j : Nat} (h : j ≤ L.length) : (Znt L j).length = L.length := by
 have := ZgA L j
 unfold Znt
 rw [List.length_append, List.length_drop]; omega
theorem ZwF {L : List ByteArray} {j : Nat} (h : j < L.length) : nth (ZaD (Znt L j)) j = some (.str (at_ L j)) := by
 have := ZgA L j
 rw [ZbA (by rw [ZiB (by omega)]; exact h), ZbE (by rw [ZiB (by omega)]; exact h), ZbE h]
 congr 2
 unfold Znt
 rw [List.getElem_append_right (by omega), List.getElem_drop]
 congr 1
 omega
theorem ZtO {L : List ByteArray} {j : Nat} (h : j < L.length) (hp : ZbH (at_ L j) = false) : ZaO (ZaD (Znt L j)) (Zbw (L.take j)).length (.str (at_ L j)) = ZaD (Znt L (j + 1)) := by
 have h2 := ZgA L j
 have e : Zbw (L.take (j + 1)) = Zbw (L.take j) ++ [at_ L j] := by
  unfold Zbw
  rw [Zc4 _ _ h, hp]; rfl
 unfold ZaD
 rw [Zsg V.str, Zbd]
 congr 1
 unfold Znt
 rw [e, List.set_append_right _ _ (Nat.le_refl _), Nat.sub_self, List.length_append, List.append_assoc]
 congr 1
 have hd : (Zbw (L.take j)).length < L.length := by omega
 rw [List.drop_eq_getElem_cons hd]
 rfl
theorem ZrQ {L : List ByteArray} {j : Nat} (h : j < L.length) (hp : ZbH (at_ L j) = true) : Znt L (j + 1) = Znt L j ∧ (Zbw (L.take (j + 1))).length = (Zbw (L.take j)).length := by
 have e : Zbw (L.take (j + 1)) = Zbw (L.take j) := by
  unfold Zbw
  rw [Zc4 _ _ h, hp]
  exact List.append_nil _
 exact ⟨by unfold Znt; rw [e], by rw [e]⟩
theorem Zez (v : Bool) (s : S) (L : List ByteArray) : ZaX (ZaW v s 11) (ZaD L) = some (ZaD L) :=
 ZdV fun u hu => by obtain ⟨b, _, rfl⟩ := List.mem_map.1 hu; rfl
theorem Zh0 (L : List ByteArray) : (ZaD L).all V.plain = true := by
 rw [List.all_eq_true]; intro u hu; obtain ⟨b, _, rfl⟩ := List.mem_map.1 hu; rfl
theorem Zrf (L : List ByteArray) : (ZaD L).map V.lent = ZaD L := by
 unfold ZaD; rw [List.map_map]; rfl
theorem Zjr {L : List ByteArray} (hl : L.length ≤ 1048577) (hN : 1048580 < N) (f : Fl) (k : Int → Option R) :
  Zuh N (ZaD L) f k = k (ZeD (fun i => ZbH (at_ L i)) L.length) := by
 rw [Zoy]
 unfold Zk3
 rw [ZaZ]
 refine (Zef (β := Nat) (l := fun n i => ZeK N (ZaD L) f (L.length : Int) _ _ n (i : Int)) (len := L.length) (q := fun i => if ZbH (at_ L i) then some i else none) (kb := fun i => k (i : Int)) (k1 := k (-1)) ?_ ?_ (show L.length < N by omega)).trans ?_
 ·intro n i hi _
  simp only [ZeK, ZcJ, Zcs hi, Int.natCast_nonneg, if_true, Int.toNat_natCast, ZbA hi, Zae, ZbT]
  rw [Zi3]
  unfold ZhP
  rw [Zbg (i := i) (by omega), show ((at_ L i).toList == (ByteArray.mk #[]).toList) = ZbH (at_ L i) from rfl]
  cases ZbH (at_ L i) <;> rfl
 ·intro _ n
  simp only [ZeK, ZcJ, Int.lt_irrefl, decide_false]
 ·unfold ZeD
  generalize (List.range' 0 L.length).findSome? _ = o
  cases o <;> rfl
theorem ZpH {q : Nat → Bool} {len i : Nat} (h : (List.range' 0 len).findSome? (fun i => if q i then some i else none) = some i) : i < len ∧ q i = true ∧ ∀ j, j < i → q j = false := by
 have : ∀ (d a : Nat), (List.range' a d).findSome? (fun i => if q i then some i else none) = some i → i < a + d ∧ a ≤ i ∧ q i = true ∧ ∀ j, a ≤ j → j < i → q j = false := by
  intro d
  induction d with
  | zero => intro a h; cases h
  | succ d ih =>
   intro a h
   rw [List.range'_succ, List.findSome?_cons] at h
   cases hq : q a with
   | true =>
    rw [hq] at h
    obtain rfl : a = i := by simpa using h
    exact ⟨by omega, Nat.le_refl _, hq, fun j h1 h2 => by omega⟩
   | false =>
    rw [hq] at h
    obtain ⟨h1, h2, h3, h4⟩ := ih (a + 1) h
    refine ⟨by omega, by omega, h3, fun j h5 h6 => ?_⟩
    rcases Nat.lt_or_ge a j with h7 | h7
    ·exact h4 j h7 h6
    ·obtain rfl : a = j := by omega
     exact hq
 obtain ⟨h1, _, h2, h3⟩ := this len 0 h
 exact ⟨by omega, h2, fun j hj => h3 j (Nat.zero_le _) hj⟩
theorem Zia {L : List ByteArray} (hl : L.length ≤ 1048577) (hN : 1048580 < N) (k : Nat → List V → Option R) :
  ∃ es : List V, Zvu N L.length (ZaD L) k = k (Zbw L).length (ZaD (Zbw L) ++ es) ∧ ZaN (ZaD (Zbw L) ++ es) = true := by
 rw [ZnK]
 unfold ZjI
 simp only [List.drop_zero]
 rw [List.take_of_length_le (by rw [ZaZ]; exact Nat.le_refl _)]
 simp only [Zez]
 rw [Zrf, Zjr N hl hN, ZaZ, Nat.zero_add]
 simp only [Nat.le_refl, decide_true, Zak]
 unfold ZeD
 cases h : (List.range' 0 L.length).findSome? (fun i => if ZbH (at_ L i) = true then some i else none) with
 | none =>
  have h2 := ZfX.1 h
  have e : Zbw L = L := by
   unfold Zbw
   rw [List.filter_eq_self]
   intro p hp
   obtain ⟨i, hi, rfl⟩ := List.getElem_of_mem hp
   have := h2 i hi
   rw [ZbE hi] at this
   cases he : ZbH L[i] with
   | true => rw [he] at this; simp at this
   | false => rfl
  refine ⟨[], ?_, ?_⟩
  ·rw [e, List.append_nil, ZcV]; rfl
  ·rw [List.append_nil, ZcV]
 | some i =>
  obtain ⟨hi, hq, hlt⟩ := ZpH h
  have hne : ((i : Int) == -1) = false := beq_false_of_ne (by omega)
  rw [hne]
  have e0 : Zbw (L.take (i + 1)) = L.take i := by
   have e1 : Zbw (L.take i) = L.take i := by
    unfold Zbw
    rw [List.filter_eq_self]
    intro p hp
    obtain ⟨j, hj, rfl⟩ := List.getElem_of_mem hp
    rw [List.length_take] at hj
    have := hlt j (by omega)
    rw [ZbE (by omega)] at this
    simp [this]
   rw [← e1]
   unfold Zbw
   rw [Zc4 _ _ hi, hq]
   exact List.append_nil _
  have hl0 : (Zbw (L.take (i + 1))).length = i := by rw [e0, List.length_take]; omega
  have hs0 : Znt L (i + 1) = L := by unfold Znt; rw [hl0, e0, List.take_append_drop]
  refine ⟨?es, ?_, ?_⟩
  case es => exact List.replicate (L.length - (Zbw L).length) (.str (ByteArray.mk #[]))
  ·have hfl : (Zbw L).length ≤ L.length := List.length_filter_le _ _
   have hfin : Znt L L.length = Zbw L ++ L.drop (Zbw L).length := by unfold Znt; rw [List.take_of_length_le (Nat.le_refl _)]
   have hfill : ZeQ (ZaD (Zbw L ++ L.drop (Zbw L).length)) (Zbw L).length (L.length - (Zbw L).length) (.str (ByteArray.mk #[])) = ZaD (Zbw L) ++ List.replicate (L.length - (Zbw L).length) (.str (ByteArray.mk #[])) := by
    unfold ZeQ ZaD
    rw [List.map_append, List.take_append_of_le_length (by rw [List.length_map]; exact Nat.le_refl _), List.take_of_length_le (by rw [List.length_map]; exact Nat.le_refl _),
     List.drop_eq_nil_of_le (by simp only [List.length_append, List.length_map, List.length_drop]; omega), List.append_nil]
   have hnr : ZaN (ZaD (Zbw L) ++ List.replicate (L.length - (Zbw L).length) (.str (ByteArray.mk #[]))) = true := by
    unfold ZaN
    rw [List.all_append]
    have h1 := ZcV (Zbw L)
    unfold ZaN at h1
    rw [h1, Bool.true_and, List.all_eq_true]
    intro v hv
    rw [List.eq_of_mem_replicate hv]; rfl
   have hput : ∀ b : ByteArray, ∀ u : ByteArray, Zb9 (.str u) 0 [.str b] = some (.str b) := fun b u => rfl
   show ZdJ N L.length _ N (i : Int) (IntKind.i64.wrap ((i : Int) + 1)) (ZaD L) = _
   rw [Zbg (i := i) (by omega)]
   have hrun := Zln (R := R) (len := L.length) (k1 := k (Zbw L).length (ZaD (Zbw L) ++ List.replicate (L.length - (Zbw L).length) (.str (ByteArray.mk #[]))))
    (l := fun n j => ZdJ N L.length (fun x17 e18 => (if (0 : Int) ≤ x17 ∧ x17 ≤ (L.length : Int) then Zak (decide ((0 + (x17 : Int).toNat) + (L.length - (x17 : Int).toNat) ≤ e18.length)) ((if (0 : Int) ≤ x17 ∧ x17 ≤ (L.length : Int) then Zak (ZaN (ZeQ e18 (0 + (x17 : Int).toNat) (L.length - (x17 : Int).toNat) (.str (ByteArray.mk #[]))) && true) (k ((x17 : Int).toNat) (ZeQ e18 (0 + (x17 : Int).toNat) (L.length - (x17 : Int).toNat) (.str (ByteArray.mk #[])))) else none)) else none)) n ((Zbw (L.take j)).length : Int) (j : Int) (ZaD (Znt L j)))
    (fun n j hj => by
     have hf := ZgA L j
     simp only [ZdJ, ZcL, Zcs hj]
     rw [if_pos ⟨by omega, by omega⟩]
     simp only [Int.toNat_natCast, Nat.zero_add, ZwF hj]
     show Zsk N (at_ L j) _ = _
     rw [Zi3]
     unfold ZhP
     rw [show ((at_ L j).toList == (ByteArray.mk #[]).toList) = ZbH (at_ L j) from rfl]
     cases he : ZbH (at_ L j) with
     | true =>
      obtain ⟨h1, h2⟩ := ZrQ hj he
      simp only [Bool.not_true]
      rw [Zbg (i := j) (by omega), h1, h2]
     | false =>
      have e : (Zbw (L.take (j + 1))).length = (Zbw (L.take j)).length + 1 := by
       unfold Zbw
       rw [Zc4 _ _ hj, he, List.length_append]; rfl
      simp only [Bool.not_false]
      rw [if_pos ⟨by omega, by omega⟩, ZbA (by rw [ZiB (by omega)]; omega)]
      simp only [hput]
      rw [ZtO hj he, Zbg (by omega), Zbg (by omega), e])
    (fun n => by
     simp only [ZdJ, ZcL, Int.lt_irrefl, decide_false]
     rw [List.take_of_length_le (Nat.le_refl _), hfin]
     rw [if_pos ⟨by omega, by omega⟩, if_pos ⟨by omega, by omega⟩]
     simp only [Int.toNat_natCast, Nat.zero_add, hfill, hnr]
     rw [decide_eq_true (by rw [ZaZ, List.length_append, List.length_drop]; omega)]
     rfl) (L.length - (i + 1)) N (i + 1) (by omega) (by omega)
   rw [hl0, hs0] at hrun
   exact hrun
  ·unfold ZaN
   rw [List.all_append]
   have h1 := ZcV (Zbw L)
   unfold ZaN at h1
   rw [h1, Bool.true_and, List.all_eq_true]
   intro v hv
   rw [List.eq_of_mem_replicate hv]; rfl
theorem Zlz {w : ByteArray} (hw : w.size ≤ 1048576) (hN : 1048580 < N) (k : List V → Option R) : Zsn N w k = k (ZaD (ZaM w)) := by
 rw [ZoD]
 unfold ZjL
 rw [Zw8 N hw hN, ZcV]
 simp only [Bool.true_and, Bool.and_true, Zak]
 have hl := ZfW w
 obtain ⟨es, he, hr⟩ := Zia N (L := Za0 w) (by omega) hN (fun k4 e5 => (match ZaX (ZaW false [some ⟨e5, 1, 9, 0⟩] 11) ((e5.drop 0).take k4) with
   | some e6 => Zak (decide (0 + k4 ≤ e5.length)) (Zak (e6.all V.plain) (k e6))
   | none => none))
 refine he.trans ?_
 have e1 : ((ZaD (Zbw (Za0 w)) ++ es).drop 0).take (Zbw (Za0 w)).length = ZaD (Zbw (Za0 w)) := by
  rw [List.drop_zero, List.take_append_of_le_length (by rw [ZaZ]; exact Nat.le_refl _), List.take_of_length_le (by rw [ZaZ]; exact Nat.le_refl _)]
 simp only [e1, Zez, Zh0, Zak]
 rw [decide_eq_true (by rw [List.length_append, ZaZ]; omega)]
 rfl
theorem Zhy {L : List ByteArray} (hl : L.length ≤ 1048577) (hz : ∀ p ∈ L, p.size ≤ 1048576) (hN : 1048580 < N) (f : Fl) (k : Bool → Option R) :
  Zvr N (ZaD L) f k = k (!L.all Zc0) := by
 rw [Zph]
 unfold Zll
 rw [ZoW]
 unfold Zks
 rw [ZaZ]
 refine (Zef (β := Nat) (l := fun n i => ZeN N (ZaD L) _ (L.length : Int) _ _ n (i : Int)) (len := L.length) (q := fun i => if !Zc0 (at_ L i) then some i else none) (kb := fun i => k (decide ((i : Int) ≥ 0))) (k1 := k (decide ((-1 : Int) ≥ 0))) ?_ ?_ (show L.length < N by omega)).trans ?_
 ·intro n i hi _
  simp only [ZeN, ZcI, Zcs hi, Int.natCast_nonneg, if_true, Int.toNat_natCast, ZbA hi, Zae, ZbT]
  rw [Zpl]
  unfold Zj7
  rw [ZoE N (hz _ (Zhj hi)) (by omega), Zbg (i := i) (by omega)]
  cases Zc0 (at_ L i) <;> rfl
 ·intro _ n
  simp only [ZeN, ZcI, Int.lt_irrefl, decide_false]
 ·have := Zgg (q := fun i => !Zc0 (at_ L i)) (len := L.length)
  unfold ZeD at this
  simp only [Bool.not_not] at this
  have e : (List.range' 0 L.length).all (fun i => Zc0 (at_ L i)) = L.all Zc0 := by
   rw [Bool.eq_iff_iff, ZdN, List.all_eq_true]
   exact ⟨fun h p hp => by
    obtain ⟨i, hi, rfl⟩ := List.getElem_of_mem hp
    rw [← ZbE hi]
    exact h i hi, fun h i hi => h _ (Zhj hi)⟩
  rw [← e, ← this]
  generalize (List.range' 0 L.length).findSome? _ = o
  cases o <;> rfl
theorem Zdq {w : ByteArray} (hw : w.size ≤ 1048576) (hN : 1048580 < N) (k : Bool → Option R) : Zlc N w k = k (ZbQ w) := by
 rw [Zok]
 unfold Zlx
 rw [ZoI]
 unfold Zjm ZbQ
 rw [show (w.toList == (ByteArray.mk #[]).toList) = ZbH w from rfl, Zcq, Zlz N hw hN]
 have hl := Zd7 w
 rw [Zhy N (by omega) (fun p hp => Nat.le_trans (ZeM hp) hw) hN]
 unfold inR
 by_cases h1 : w.size = 0
 ·rw [decide_eq_true h1, decide_eq_false (p := 1 ≤ (w.size : Int)) (by omega), Bool.false_and, Bool.and_false]
  cases decide ((w.size : Int) ≤ 60) <;> rfl
 ·rw [decide_eq_false h1, decide_eq_true (p := 1 ≤ (w.size : Int)) (by omega), Bool.true_and]
  cases decide ((w.size : Int) ≤ 60) <;> cases (ZaM w).all Zc0 <;> rfl
end
section
open Go
variable {R : Type} (N : Nat)
def Zbb (root : Bool) (xs : List ByteArray) (p : ByteArray) : List ByteArray :=
 if Zhu p then xs else if ZbI p then (if decide (0 < xs.length) && !ZbI (at_ xs (xs.length - 1)) then xs.take (xs.length - 1) else if root then xs else xs ++ [p]) else xs ++ [p]
def ZbU (root : Bool) (ps : List ByteArray) : List ByteArray := ps.foldl (Zbb root) []
theorem ZfV (root : Bool) (xs : List ByteArray) (p : ByteArray) : (Zbb root xs p).length ≤ xs.length + 1 := by
 unfold Zbb
 split
 ·omega
 ·split
  ·split
   ·rw [List.length_take]; omega
   ·split <;> simp
  ·simp
theorem Zo9 (es : List V) (ver : Nat) : Za9 [some ⟨[], 1, 9, 0⟩, some ⟨es, 1, 9, ver⟩] 1 ver = some ⟨es, 1, 9, ver⟩ := by simp [Za9, nth]
theorem ZgO (xs : List ByteArray) (p : ByteArray) : ZaD xs ++ [V.str p] = ZaD (xs ++ [p]) := by simp [ZaD]
theorem Ze7 (xs : List ByteArray) (n : Nat) : ZaD (xs.take n) = (ZaD xs).take n := by simp [ZaD, List.map_take]
theorem Zd8 (n : Nat) : Nat.beq n n = true := Nat.beq_refl n
theorem Zl2 {w : ByteArray} (h0 : 0 < (bl w).length) {ps : List ByteArray} (hps : ps.length ≤ 1048577) {i : Nat} (hi : i < ps.length) {xs : List ByteArray} {es : List V} {ver : Nat} (hx : es.take xs.length = ZaD xs) (hl : xs.length ≤ es.length) (hxi : xs.length ≤ i)
  (nx : Nat → Nat → Int → Ob → Option R) (k0 : Nat → Nat → Ob → Option R) :
  ∃ es' ver', es'.take (Zbb ((((at_ (bl w) 0).toNat : Nat) : Int) == 47) xs (at_ ps i)).length = ZaD (Zbb ((((at_ (bl w) 0).toNat : Nat) : Int) == 47) xs (at_ ps i)) ∧ (Zbb ((((at_ (bl w) 0).toNat : Nat) : Int) == 47) xs (at_ ps i)).length ≤ es'.length ∧
   Zcj N w (ZaD ps) (ps.length : Int) nx ver xs.length (i : Int) ⟨es, 1, 9, ver⟩ k0 = nx ver' (Zbb ((((at_ (bl w) 0).toNat : Nat) : Int) == 47) xs (at_ ps i)).length ((i + 1 : Nat) : Int) ⟨es', 1, 9, ver'⟩ := by
 unfold Zcj
 simp only [Zcs hi, Int.natCast_nonneg, if_true, Int.toNat_natCast, ZbA hi, Zae, ZbT, Zbg (i := i) (by omega)]
 have hb := Zbu (R := R) w (i := 0) h0
 simp only [Int.ofNat_zero, Int.natCast_zero] at hb
 have app : ∃ es', es' = es.take xs.length ++ [V.str (at_ ps i)] ∧ es'.take (xs ++ [at_ ps i]).length = ZaD (xs ++ [at_ ps i]) ∧ (xs ++ [at_ ps i]).length ≤ es'.length := by
  refine ⟨_, rfl, ?_, ?_⟩
  ·rw [hx, ZgO, List.take_of_length_le]
   rw [ZaZ]; exact Nat.le_refl _
  ·rw [hx, ZgO, ZaZ]; exact Nat.le_refl _
 have happ : (match Za9 [some ⟨[], 1, 9, 0⟩, some ⟨es, 1, 9, ver⟩] 1 ver with
   | some ob48 => (if xs.length ≤ ob48.es.length then (match Za9 [some ⟨[], 1, 9, 0⟩, some { ob48 with es := (ob48.es.take xs.length) }] 1 ver with
    | some ob49 => Zak (Nat.beq ob49.elem 9) ((if True ∧ xs.length = ob49.es.length ∧ (xs.length + 1) * 16 ≤ 140737488355328 ∧ 0 < 1 then nx (ver + 1) (xs.length + 1) ((i + 1 : Nat) : Int) ({ ob49 with es := (ob49.es ++ ([.str (at_ ps i)] : List V)), ver := (ver + 1) }) else none))
    | none => none) else none)
   | none => none) = nx (ver + 1) (xs ++ [at_ ps i]).length ((i + 1 : Nat) : Int) ⟨es.take xs.length ++ [V.str (at_ ps i)], 1, 9, ver + 1⟩ := by
  simp only [Zo9, if_pos hl, Zd8, Zak, List.length_take, Nat.min_eq_left hl]
  rw [if_pos ⟨trivial, trivial, by omega, by omega⟩]
  simp
 obtain ⟨es1, he1, ha1, ha2⟩ := app
 unfold Zbb
 cases hd : Zhu (at_ ps i) with
 | true =>
  unfold Zhu at hd
  rw [hd]
  exact ⟨es, ver, hx, hl, rfl⟩
 | false =>
  unfold Zhu at hd
  rw [hd]
  simp only [Bool.false_eq_true, if_false]
  cases hdd : ZbI (at_ ps i) with
  | false =>
   unfold ZbI at hdd
   rw [hdd]
   simp only [Bool.false_eq_true, if_false]
   refine ⟨es1, ver + 1, ha1, ha2, ?_⟩
   rw [he1]
   exact happ
  | true =>
   unfold ZbI at hdd
   rw [hdd]
   simp only [if_true]
   have hroot : ∃ es' ver', es'.take ((if ((((at_ (bl w) 0).toNat : Nat) : Int) == 47) = true then xs else xs ++ [at_ ps i])).length = ZaD (if ((((at_ (bl w) 0).toNat : Nat) : Int) == 47) = true then xs else xs ++ [at_ ps i]) ∧
     (if ((((at_ (bl w) 0).toNat : Nat) : Int) == 47) = true then xs else xs ++ [at_ ps i]).length ≤ es'.length ∧
     (ZbZ w 0 fun n35 => (match (n35 == 47) with
       | true => nx ver xs.length ((i + 1 : Nat) : Int) ⟨es, 1, 9, ver⟩
       | false => (match Za9 [some ⟨[], 1, 9, 0⟩, some ⟨es, 1, 9, ver⟩] 1 ver with
   | some ob48 => (if xs.length ≤ ob48.es.length then (match Za9 [some ⟨[], 1, 9, 0⟩, some { ob48 with es := (ob48.es.take xs.length) }] 1 ver with
    | some ob49 => Zak (Nat.beq ob49.elem 9) ((if True ∧ xs.length = ob49.es.length ∧ (xs.length + 1) * 16 ≤ 140737488355328 ∧ 0 < 1 then nx (ver + 1) (xs.length + 1) ((i + 1 : Nat) : Int) ({ ob49 with es := (ob49.es ++ ([.str (at_ ps i)] : List V)), ver := (ver + 1) }) else none))
    | none => none) else none)
   | none => none))) = nx ver' (if ((((at_ (bl w) 0).toNat : Nat) : Int) == 47) = true then xs else xs ++ [at_ ps i]).length ((i + 1 : Nat) : Int) ⟨es', 1, 9, ver'⟩ := by
    rw [hb]
    cases hr : ((((at_ (bl w) 0).toNat : Nat) : Int) == 47) with
    | true => exact ⟨es, ver, hx, hl, rfl⟩
    | false =>
     simp only [Bool.false_eq_true, if_false]
     exact ⟨es1, ver + 1, ha1, ha2, by rw [he1]; exact happ⟩
   by_cases hn : 0 < xs.length
   ·have h1 : decide ((xs.length : Int) > 0) = true := decide_eq_true (by omega)
    have h2 : IntKind.i64.wrap ((xs.length : Int) - 1) = ((xs.length - 1 : Nat) : Int) := by
     rw [Za7 (by omega) (by omega)]; omega
    have h3 : nth es (0 + (xs.length - 1)) = some (.str (at_ xs (xs.length - 1))) := by
     rw [Nat.zero_add]
     have : nth (es.take xs.length) (xs.length - 1) = some (.str (at_ xs (xs.length - 1))) := by rw [hx, ZbA (by omega)]
     exact (Zb2 this).1
    rw [h1]
    have hi1 : (0 : Int) ≤ ((xs.length - 1 : Nat) : Int) ∧ ((xs.length - 1 : Nat) : Int) < (xs.length : Int) := ⟨Int.natCast_nonneg _, by omega⟩
    have hi2 : (0 : Int) ≤ ((xs.length - 1 : Nat) : Int) ∧ ((xs.length - 1 : Nat) : Int) ≤ (xs.length : Int) := ⟨Int.natCast_nonneg _, by omega⟩
    simp only [Zo9, Zd8, Zak, h2, Int.toNat_natCast, h3, if_pos hi1, if_pos hi2, V.cells, List.drop_zero, ZdG, ZbT]
    have hdec : decide (0 < xs.length) = true := decide_eq_true hn
    rw [hdec]
    cases hq : ZbI (at_ xs (xs.length - 1)) with
    | false =>
     unfold ZbI at hq
     rw [hq]
     simp only [Bool.not_false, Bool.and_self, if_true]
     refine ⟨es, ver, ?_, ?_, ?_⟩
     ·rw [List.length_take, Nat.min_eq_left (by omega), Ze7, ← hx, List.take_take, Nat.min_eq_left (by omega)]
     ·rw [List.length_take]; omega
     ·rw [List.length_take, Nat.min_eq_left (by omega)]
    | true =>
     unfold ZbI at hq
     rw [hq]
     simp only [Bool.not_true, Bool.and_false, Bool.false_eq_true, if_false]
     simp only [Zo9] at hroot
     exact hroot
   ·have h1 : decide ((xs.length : Int) > 0) = false := decide_eq_false (by omega)
    rw [h1]
    have hdec : decide (0 < xs.length) = false := decide_eq_false hn
    rw [hdec]
    simp only [Bool.false_and, Bool.false_eq_true, if_false]
    exact hroot
theorem Zc8 {w : ByteArray} (hw : w.size ≤ 1048576) (h0 : 0 < w.size) (hN : 1048580 < N) (k : List V → Option R) :
  Zhx N w k = k (ZaD (ZbU ((((at_ (bl w) 0).toNat : Nat) : Int) == 47) (ZaM w))) := by
 rw [Zoo]
 unfold Zkt
 rw [Zj9 N hw hN, ZaZ]
 have hpl := Zd7 w
 generalize hps : ZaM w = ps at hpl
 have hb0 : 0 < (bl w).length := by rw [← ZaA]; exact h0
 have key : ∀ (d n i : Nat) (xs : List ByteArray) (es : List V) (ver : Nat), i + d = ps.length → d < n → es.take xs.length = ZaD xs → xs.length ≤ es.length → xs.length ≤ i →
   ZdI N w (ZaD ps) (ps.length : Int) (fun k50 k51 O52 => (match Za9 [some ⟨[], 1, 9, 0⟩, some O52] 1 k50 with
  | some ob53 => (match ZaX (ZaW false [some ⟨[], 1, 9, 0⟩, some O52] 11) ((ob53.es.drop 0).take k51) with
   | some e54 => Zak (decide (0 + k51 ≤ ob53.es.length)) (Zak (e54.all V.plain) ((match Nat.beq ob53.esz 1 with
    | true => k e54
    | false => none)))
   | none => none)
  | none => none)) n ver xs.length (i : Int) ⟨es, 1, 9, ver⟩ = k (ZaD ((ps.drop i).foldl (Zbb ((((at_ (bl w) 0).toNat : Nat) : Int) == 47)) xs)) := by
  intro d
  induction d with
  | zero =>
   intro n i xs es ver hi hn hx hl hxi
   obtain ⟨n, rfl⟩ : ∃ m, n = m + 1 := ⟨n - 1, by omega⟩
   obtain rfl : i = ps.length := by omega
   simp only [ZdI, Zcj]
   rw [show decide ((ps.length : Int) < (ps.length : Int)) = false from decide_eq_false (by omega)]
   simp only [Zo9, List.drop_zero, hx, Zez, Nat.zero_add, decide_eq_true hl, Zak, Zh0, Zd8, List.drop_length, List.foldl_nil]
  | succ d ih =>
   intro n i xs es ver hi hn hx hl hxi
   obtain ⟨n, rfl⟩ : ∃ m, n = m + 1 := ⟨n - 1, by omega⟩
   have hlt : i < ps.length := by omega
   rw [ZdI]
   obtain ⟨es', ver', q1, q2, q3⟩ := Zl2 N hb0 (by omega) hlt hx hl hxi (fun k_5 k_6 x_4 O_9 => ZdI N w (ZaD ps) (ps.length : Int) (fun k50 k51 O52 => (match Za9 [some ⟨[], 1, 9, 0⟩, some O52] 1 k50 with
  | some ob53 => (match ZaX (ZaW false [some ⟨[], 1, 9, 0⟩, some O52] 11) ((ob53.es.drop 0).take k51) with
   | some e54 => Zak (decide (0 + k51 ≤ ob53.es.length)) (Zak (e54.all V.plain) ((match Nat.beq ob53.esz 1 with
    | true => k e54
    | false => none)))
   | none => none)
  | none => none)) n k_5 k_6 x_4 O_9) (fun k50 k51 O52 => (match Za9 [some ⟨[], 1, 9, 0⟩, some O52] 1 k50 with
  | some ob53 => (match ZaX (ZaW false [some ⟨[], 1, 9, 0⟩, some O52] 11) ((ob53.es.drop 0).take k51) with
   | some e54 => Zak (decide (0 + k51 ≤ ob53.es.length)) (Zak (e54.all V.plain) ((match Nat.beq ob53.esz 1 with
    | true => k e54
    | false => none)))
   | none => none)
  | none => none))
   rw [q3, ih n (i + 1) _ es' ver' (by omega) (by omega) q1 q2 (by have := ZfV ((((at_ (bl w) 0).toNat : Nat) : Int) == 47) xs (at_ ps i); omega)]
   have hdr : ps.drop i = at_ ps i :: ps.drop (i + 1) := by
    rw [List.drop_eq_getElem_cons hlt]
    congr 1
    exact (ZbE hlt).symm
   rw [hdr, List.foldl_cons]
 exact key ps.length N 0 [] [] 0 (by omega) (by omega) rfl (Nat.le_refl 0) (Nat.le_refl 0)
end
section
open Go
variable {R : Type} (N : Nat)
theorem Zg1 (c : UInt8) (a b : List UInt8) : ZaU c (a ++ c :: b) = ZaU c a ++ ZaU c b := by
 induction a with
 | nil => rw [List.nil_append, ZbV rfl]; rfl
 | cons x a ih =>
  rw [List.cons_append]
  by_cases h : x = c
  ·rw [ZbV h, ZbV h, ih, List.cons_append]
  ·rw [ZbK h, ZbK h, ih]
   cases hq : ZaU c a with
   | nil => exact absurd hq (Zcl c a)
   | cons p ps => simp [Zuy]
theorem ZgW (c : UInt8) : ∀ (b : List UInt8), (∀ x ∈ b, x ≠ c) → ZaU c b = [b]
 | [], _ => rfl
 | x :: b, h => by
  rw [ZbK (h x (by simp)), ZgW c b fun y hy => h y (by simp [hy])]
  rfl
def ZcQ (l : List UInt8) : Nat → Int
 | 0 => -1
 | n + 1 => if at_ l n = 47 then (n : Int) else ZcQ l n
theorem Zed (l : List UInt8) : ∀ n, (ZcQ l n = -1 ∧ ∀ j, j < n → at_ l j ≠ 47) ∨ ∃ m : Nat, ZcQ l n = (m : Int) ∧ m < n ∧ at_ l m = 47 ∧ ∀ j, m < j → j < n → at_ l j ≠ 47
 | 0 => .inl ⟨rfl, fun j hj => by omega⟩
 | n + 1 => by
  unfold ZcQ
  split
  ·rename_i h
   exact .inr ⟨n, rfl, by omega, h, fun j h1 h2 => by omega⟩
  ·rename_i h
   rcases Zed l n with ⟨h1, h2⟩ | ⟨m, h1, h2, h3, h4⟩
   ·refine .inl ⟨h1, fun j hj => ?_⟩
    by_cases hjn : j = n
    ·subst hjn; exact h
    ·exact h2 j (by omega)
   ·refine .inr ⟨m, h1, by omega, h3, fun j hj1 hj2 => ?_⟩
    by_cases hjn : j = n
    ·subst hjn; exact h
    ·exact h4 j hj1 (by omega)
theorem ZAO {b : UInt8} : ((b.toNat : Int) == 47) = decide (b = 47) := by
 have := Zsu (b := b) (c := 47)
 exact this
theorem ZmZ {w : ByteArray} (hw : w.size ≤ 1048576) (hN : 1048580 < N) (k : Int → Option R) : Zue N w 47 k = k (ZcQ (bl w) (bl w).length) := by
 rw [ZoJ]
 unfold ZjH
 rw [Zpj]
 unfold Zj1
 have key : ∀ (m n : Nat), m ≤ (bl w).length → m < n → ZeA N w 47 (fun x3 => k x3) (fun (_ : Unit) => k (-1)) n ((m : Int) - 1) = k (ZcQ (bl w) m) := by
  intro m
  induction m with
  | zero =>
   intro n _ hn
   obtain ⟨n, rfl⟩ : ∃ q, n = q + 1 := ⟨n - 1, by omega⟩
   rw [ZeA, ZcG, decide_eq_false (by omega)]
   rfl
  | succ m ih =>
   intro n hm hn
   obtain ⟨n, rfl⟩ : ∃ q, n = q + 1 := ⟨n - 1, by omega⟩
   have e : (((m + 1 : Nat) : Int) - 1) = (m : Int) := by omega
   rw [ZeA, ZcG, e, decide_eq_true (by omega)]
   simp only
   rw [Zbu w (by omega), ZAO, ZcQ]
   by_cases h : at_ (bl w) m = 47
   ·rw [decide_eq_true h, if_pos h]
   ·rw [decide_eq_false h, if_neg h]
    simp only
    have hs := ZaA w
    rw [Za7 (by omega) (by omega)]
    exact ih n (by omega) (by omega)
 have hs := ZaA w
 rw [Za7 (by omega) (by omega), hs]
 exact key (bl w).length N (Nat.le_refl _) (by omega)
theorem ZA2 {l : List UInt8} {n i : Nat} (h : i < n) : at_ (l.take n) i = at_ l i := by
 unfold at_
 rw [List.getD_eq_getElem?_getD, List.getD_eq_getElem?_getD, List.getElem?_take, if_pos h]
end
section
open Go
variable {R : Type} (N : Nat)
def ZBD (w : ByteArray) : ByteArray := ba ((bl w).drop ((ZcQ (bl w) (bl w).length).toNat + 1))
theorem Zxk {w : ByteArray} (h : Zbo w = true) : at_ (bl w) 0 = 47 ∧ 1 ≤ w.size ∧ w.size ≤ 60 := by
 unfold Zbo at h
 rw [Bool.and_eq_true] at h
 have h1 := Zba h.1
 have h2 := h.2
 rw [ZAO] at h2
 exact ⟨of_decide_eq_true h2, h1⟩
theorem Zx5 {w : ByteArray} (h : at_ (bl w) 0 = 47) (h1 : 1 ≤ w.size) : ∃ m : Nat, ZcQ (bl w) (bl w).length = (m : Int) ∧ m < (bl w).length ∧ at_ (bl w) m = 47 ∧ ∀ j, m < j → j < (bl w).length → at_ (bl w) j ≠ 47 := by
 have hs := ZaA w
 rcases Zed (bl w) (bl w).length with ⟨_, h2⟩ | h2
 ·exact absurd h (h2 0 (by omega))
 ·exact h2
theorem Zxo {w : ByteArray} (h : Zdv w = true) : 0 < w.size := by
 unfold Zdv Zc0 at h
 simp only [Bool.and_eq_true] at h
 have := Ztt.1 h.1.1.2
 omega
theorem Zrx {w : ByteArray} (h : Zdv w = true) : Zhu w = false ∧ ZbI w = false := by
 unfold Zdv at h
 simp only [Bool.and_eq_true, Bool.not_eq_true'] at h
 exact ⟨h.1.2, h.2⟩
theorem Zxe {root : Bool} {ps : List ByteArray} {p : ByteArray} (h : Zdv p = true) : ZbU root (ps ++ [p]) = ZbU root ps ++ [p] := by
 unfold ZbU
 rw [List.foldl_append]
 obtain ⟨h1, h2⟩ := Zrx h
 simp only [List.foldl_cons, List.foldl_nil, Zbb, h1, h2, Bool.false_eq_true, if_false]
theorem ZpL (root : Bool) : ∀ (ps xs : List ByteArray), (ps.foldl (Zbb root) xs).length ≤ xs.length + ps.length
 | [], xs => Nat.le_refl _
 | p :: ps, xs => by
  rw [List.foldl_cons]
  have h1 := ZpL root ps (Zbb root xs p)
  have h2 := ZfV root xs p
  rw [List.length_cons]
  omega
theorem ZwA (cs : List ByteArray) (p : ByteArray) : at_ (cs ++ [p]) cs.length = p := by
 rw [ZbE (by simp)]
 simp
theorem ZBB {w : ByteArray} (h1 : 1 ≤ w.size) (hw : w.size ≤ 1048576) (k : Int → Option R) : ZbZ w (IntKind.i64.wrap ((w.size : Int) - 1)) k = k ((at_ (bl w) (w.size - 1)).toNat : Int) := by
 have hs := ZaA w
 have e : IntKind.i64.wrap ((w.size : Int) - 1) = ((w.size - 1 : Nat) : Int) := by rw [Za7 (by omega) (by omega)]; omega
 rw [e, Zbu w (by omega)]
end
section
open Go
variable {R : Type} (N : Nat)
def ZbD (ps : List ByteArray) : ByteArray := if ps = [] then ByteArray.mk #[47] else ba ((ps.map fun p => 47 :: bl p).flatten)
theorem Zf9 (a b : ByteArray) : bl (a ++ b) = bl a ++ bl b := by
 unfold bl
 rw [ByteArray.data_append, Array.toList_append]
theorem ZrV (ps : List ByteArray) {i : Nat} (hi : i < ps.length) : ((ps.take (i + 1)).map fun p => 47 :: bl p).flatten = ((ps.take i).map fun p => 47 :: bl p).flatten ++ (47 :: bl (at_ ps i)) := by
 rw [List.take_succ_eq_append_getElem hi, ZbE hi, List.map_append, List.flatten_append, List.map_cons, List.map_nil, List.flatten_cons, List.flatten_nil, List.append_nil]
theorem Znv (ps : List ByteArray) (hs : ∀ p ∈ ps, p.size ≤ 1048576) : ((ps.map fun p => 47 :: bl p).flatten).length ≤ 1048577 * ps.length := by
 induction ps with
 | nil => simp
 | cons p ps ih =>
  have h1 := hs p (List.mem_cons_self ..)
  have h2 := ih fun q hq => hs q (List.mem_cons_of_mem _ hq)
  rw [ZaA] at h1
  rw [List.map_cons, List.flatten_cons, List.length_append, List.length_cons, List.length_cons]
  omega
theorem ZoB {ps : List ByteArray} (hl : ps.length ≤ 40) (hs : ∀ p ∈ ps, p.size ≤ 1048576) (hN : 1048580 < N) (f : Fl) (k : ByteArray → Option R) : Zi1 N (ZaD ps) f k = k (ZbD ps) := by
 rw [ZoK]
 unfold ZlC ZbD
 rw [ZaZ]
 by_cases h0 : ps = []
 ·subst h0; rfl
 ·have hlen : 0 < ps.length := List.length_pos_iff.2 h0
  have hb : (((ps.length : Nat) : Int) == 0) = false := beq_false_of_ne (by omega)
  rw [if_neg h0, hb]
  simp only
  refine Eq.trans ?_ (ZgM (l := fun m i => ZeR N (ZaD ps) f.noOwn (ps.length : Int) (fun w5 => k w5) m (ba (((ps.take i).map fun p => 47 :: bl p).flatten)) (i : Int)) (len := ps.length) ?_ ?_ (show ps.length < N by omega))
  ·rfl
  ·intro m i hi
   have h1 := Znv (ps.take i) fun p hp => hs p (List.mem_of_mem_take hp)
   have h2 : (ps.take i).length ≤ 40 := by rw [List.length_take]; omega
   have h3 := hs _ (Zhj hi)
   have e1 : (ByteArray.mk #[47]).size = 1 := rfl
   have e2 : ((ByteArray.mk #[47]) ++ at_ ps i).size = 1 + (at_ ps i).size := by rw [ByteArray.size_append]; rfl
   simp only [ZeR, ZcC, Zcs hi, Int.natCast_nonneg, if_true, Int.toNat_natCast, ZbA hi, Zae, ZbT]
   rw [e1, if_pos (by omega), e2, ZaA, Zf1, if_pos (by omega), Zbg (i := i) (by omega), ZrV ps hi]
   rfl
  ·intro m
   simp only [ZeR, ZcC, Int.lt_irrefl, decide_false, List.take_length]
theorem ZrI (ps : List ByteArray) : Zep (ZaD ps) = some ps := by
 induction ps with
 | nil => rfl
 | cons p ps ih => show Zep (V.str p :: ZaD ps) = _; rw [Zep, ih]
theorem ZsC (ps : List ByteArray) : (ZaD ps).map V.lent = ZaD ps := by unfold ZaD; rw [List.map_map]; rfl
theorem Zmu (st : S) (ps : List ByteArray) : ZaX (ZaW true st 11) (ZaD ps) = some (ZaD ps) := ZdV fun v hv => by
 obtain ⟨p, _, rfl⟩ := List.mem_map.1 hv
 rfl
theorem Zk2 (ps : List ByteArray) : (ByteArray.mk #[47]) ++ (⟨(Lib.join (ps.map (·.data.toList)) (ByteArray.mk #[47]).data.toList).toArray⟩ : ByteArray) = ZbD ps := by
 unfold ZbD
 have hx : ∀ (u v : ByteArray), bl u = bl v → u = v := fun u v h => by rw [← Zhg u, ← Zhg v, h]
 apply hx
 rw [Zf9]
 cases ps with
 | nil => rfl
 | cons p ps =>
  rw [if_neg (by simp), Zf1]
  have e : bl (⟨(Lib.join ((p :: ps).map (·.data.toList)) (ByteArray.mk #[47]).data.toList).toArray⟩ : ByteArray) = Lib.join ((p :: ps).map (·.data.toList)) [47] := rfl
  rw [e, List.map_cons, Lib.join_cons]
  unfold Lib.joinTail
  rw [List.map_map, List.map_cons, List.flatten_cons]
  rfl
theorem Zog (ps : List ByteArray) (hs : ∀ p ∈ ps, p.size ≤ 1048576) : (Lib.join (ps.map (·.data.toList)) (ByteArray.mk #[47]).data.toList).length ≤ 1048577 * ps.length := by
 cases ps with
 | nil => simp [Lib.join_nil]
 | cons p ps =>
  have h2 := Znv (p :: ps) hs
  have e : (ByteArray.mk #[47]).data.toList = [47] := rfl
  rw [e, List.map_cons, Lib.join_cons]
  unfold Lib.joinTail
  rw [List.map_cons, List.flatten_cons] at h2
  rw [List.map_map]
  have e2 : ((fun x : List UInt8 => [47] ++ x) ∘ fun x : ByteArray => x.data.toList) = fun p => 47 :: bl p := rfl
  rw [e2]
  rw [List.length_append] at h2 ⊢
  have e3 : (47 :: bl p).length = p.data.toList.length + 1 := rfl
  rw [e3] at h2
  omega
theorem ZuT {ps : List ByteArray} (hl : ps.length ≤ 40) (hs : ∀ p ∈ ps, p.size ≤ 1048576) (f : Fl) (k : ByteArray → Option R) : Zt8 N (ZaD ps) f k = k (ZbD ps) := by
 rw [Zof]
 unfold Zkr
 rw [Zi5]
 unfold Zh2 Ztj
 have h1 := Zog ps hs
 rw [ZrI]
 simp only
 have h2 : (Lib.join (ps.map (·.data.toList)) [47]).length ≤ 1048577 * ps.length := h1
 rw [if_pos ⟨by omega, by omega⟩]
 have e1 : (ByteArray.mk #[47]).size = 1 := rfl
 have e2 : (⟨(Lib.join (ps.map (·.data.toList)) (ByteArray.mk #[47]).data.toList).toArray⟩ : ByteArray).size = (Lib.join (ps.map (·.data.toList)) (ByteArray.mk #[47]).data.toList).length := by simp [ByteArray.size]
 rw [e1, e2, if_pos (by omega), Zk2]
end
section
open Go.Proofs
open Go.Proofs
def Zcb (e : List V) : Prop := ∀ i v, nth e i = some v → ∃ n : Int, v = .int .u8 n ∧ 0 ≤ n ∧ n < 256
theorem isBytes_of {xs : List Int} (h : ∀ x ∈ xs, (Lit.int .u8 x).wf = true) : Zcb (xs.map (V.int .u8)) := by
 intro i v hv
 rw [Zad, List.getElem?_map] at hv
 cases hx : xs[i]? with
 | none => rw [hx] at hv; cases hv
 | some x =>
  rw [hx] at hv
  have := Zz8 (h x (List.mem_of_getElem? hx))
  exact ⟨x, (Option.some.inj hv).symm, this.1, this.2⟩
def Zbp : Int := 4611686018427387904
theorem Zu5 {α : Type} {l : List α} {i : Nat} (h : i < l.length) : ∃ a, nth l i = some a := ⟨l[i], by rw [Zad, List.getElem?_eq_getElem h]⟩
theorem Zv4 (N : Nat) {e : List V} (he : Zcb e) (f : Fl) {at_ : Int} (seed : Int) (h0 : 0 ≤ at_) (h1 : at_ < Zbp) :
  ∃ v seed' : Int, 0 ≤ v ∧ v < 256 ∧ ∀ (R : Type) (k : Int → List V → Fl → Int → Int → Option R), Zsq N e f at_ seed k = k v e f (at_ + 1) seed' := by
 unfold Zbp at h1
 have hw : IntKind.i64.wrap (at_ + 1) = at_ + 1 := Za7 (by omega) (by omega)
 have hb : ∀ y : Int, ∃ v : Int, 0 ≤ v ∧ v < 256 ∧ IntKind.i64.wrap (IntKind.u64.wrap (BitVec.ofInt IntKind.u64.bits y &&& BitVec.ofInt IntKind.u64.bits 255).toNat) = v := by
  intro y
  have hle : (BitVec.ofInt IntKind.u64.bits y &&& BitVec.ofInt IntKind.u64.bits 255).toNat ≤ 255 := by
   rw [BitVec.toNat_and]; exact Nat.and_le_right
  refine ⟨_, ?_, ?_, rfl⟩
  ·rw [Zoi (by omega) (by omega), Za7 (by omega) (by omega)]; omega
  ·rw [Zoi (by omega) (by omega), Za7 (by omega) (by omega)]; omega
 by_cases hlt : at_ < (e.length : Int)
 ·obtain ⟨u, hu⟩ := Zu5 (l := e) (i := at_.toNat) (by omega)
  obtain ⟨n, rfl, hn0, hn1⟩ := he _ _ hu
  have hn : IntKind.i64.wrap n = n := Za7 (by omega) (by omega)
  refine ⟨n, IntKind.u64.wrap (IntKind.u64.wrap (IntKind.u64.wrap (seed * 6364136223846793005) + IntKind.u64.wrap (IntKind.i64.wrap n)) + 1442695040888963407), hn0, hn1, fun R k => ?_⟩
  rw [ZiH]
  unfold ZhN
  rw [decide_eq_true hlt]
  simp only [if_pos h0, hu, ZbW, asInt, if_true, hw]
  rw [decide_eq_true (by omega)]
  simp only [hn]
 ·rcases Classical.em (at_ + 1 ≤ (e.length : Int)) with h2 | h2
  ·omega
  ·obtain ⟨v, hv0, hv1, hv⟩ := hb (Int.fdiv (IntKind.u64.wrap (IntKind.u64.wrap (IntKind.u64.wrap (seed * 6364136223846793005) + 0) + 1442695040888963407)) (2 ^ (min (40 : Int).toNat 64)))
   refine ⟨v, IntKind.u64.wrap (IntKind.u64.wrap (IntKind.u64.wrap (seed * 6364136223846793005) + 0) + 1442695040888963407), hv0, hv1, fun R k => ?_⟩
   rw [ZiH]
   unfold ZhN
   rw [decide_eq_false hlt]
   simp only [hw]
   rw [decide_eq_false h2]
   simp only [hv]
theorem Zhq (N : Nat) {e : List V} (he : Zcb e) (f : Fl) {at_ : Int} (seed n : Int) (h0 : 0 ≤ at_) (h1 : at_ + 2 ≤ Zbp) :
  ∃ v at' seed' : Int, 0 ≤ v ∧ (v = 0 ∨ v < n) ∧ at_ ≤ at' ∧ at' ≤ at_ + 2 ∧ ∀ (R : Type) (k : Int → List V → Fl → Int → Int → Option R), ZhB N n e f at_ seed k = k v e f at' seed' := by
 by_cases hn : n ≤ 1
 ·refine ⟨0, at_, seed, by omega, .inl rfl, by omega, by omega, fun R k => ?_⟩
  rw [Zgp]
  unfold Zhc
  rw [decide_eq_true hn]
 ·obtain ⟨v1, s1, a1, a2, a3⟩ := Zv4 N he f seed h0 (by unfold Zbp at *; omega)
  obtain ⟨v2, s2, b1, b2, b3⟩ := Zv4 N he f s1 (at_ := at_ + 1) (by omega) (by unfold Zbp at *; omega)
  have hn0 : ¬ n = 0 := by omega
  by_cases h200 : n > 200
  ·refine ⟨Int.tmod (IntKind.i64.wrap (IntKind.i64.wrap (v1 * 256) + v2)) n, at_ + 1 + 1, s2, ?_, .inr ?_, by omega, by omega, fun R k => ?_⟩
   ·rw [Za7 (x := v1 * 256) (by omega) (by omega), Za7 (by omega) (by omega)]
    exact Int.tmod_nonneg _ (by omega)
   ·exact Int.tmod_lt_of_pos _ (by omega)
   ·rw [Zgp]
    unfold Zhc
    rw [decide_eq_false hn]
    simp only [a3]
    rw [decide_eq_true h200]
    simp only [b3, if_neg hn0]
  ·refine ⟨Int.tmod v1 n, at_ + 1, s1, Int.tmod_nonneg _ (by omega), .inr (Int.tmod_lt_of_pos _ (by omega)), by omega, by omega, fun R k => ?_⟩
   rw [Zgp]
   unfold Zhc
   rw [decide_eq_false hn]
   simp only [a3]
   rw [decide_eq_false h200]
   simp only [if_neg hn0]
theorem ZyE (N : Nat) {e : List V} (he : Zcb e) (f : Fl) {at_ : Int} (seed n : Int) (h0 : 0 ≤ at_) (h1 : at_ + 2 ≤ Zbp) :
  ∃ (v : Bool) (at' seed' : Int), at_ ≤ at' ∧ at' ≤ at_ + 2 ∧ ∀ (R : Type) (k : Bool → List V → Fl → Int → Int → Option R), ZrD N n e f at_ seed k = k v e f at' seed' := by
 obtain ⟨v, a, s, q1, q2, q3, q4, q5⟩ := Zhq N he f seed n h0 h1
 refine ⟨v == 0, a, s, q3, q4, fun R k => ?_⟩
 rw [Znz]
 unfold Zly
 rw [q5]
end
end Go.VM.VL
set_option linter.unusedSimpArgs false
set_option linter.unusedVariables false
namespace Go.VM.VL
open Go
section
variable (N : Nat)
theorem Zze {e : List V} (he : Zcb e) (f : Fl) {at0 : Int} (seed : Int) (xs : List ByteArray) (g : Fl) (hx : xs ≠ []) (h0 : 0 ≤ at0) (h1 : at0 + 2 ≤ Zbp) :
  ∃ v at' seed', v ∈ xs ∧ at0 ≤ at' ∧ at' ≤ at0 + 2 ∧ ∀ (R : Type) (k : ByteArray → List V → Fl → Int → Int → Option R), ZlX N (ZaD xs) g e f at0 seed k = k v e f at' seed' := by
 obtain ⟨v, a, s, q1, q2, q3, q4, q5⟩ := Zhq N he f seed ((ZaD xs).length : Int) h0 h1
 have hpos : 0 < xs.length := List.length_pos_iff.2 hx
 have hlt : v.toNat < xs.length := by
  rw [ZaZ] at q2
  omega
 refine ⟨at_ xs v.toNat, a, s, Zhj hlt, q3, q4, fun R k => ?_⟩
 rw [Zpe]
 unfold Zkp
 rw [q5]
 simp only [if_pos q1, ZbA hlt, Zae, ZbT]
theorem Za3 (a b : ByteArray) : (a ++ b).size = a.size + b.size := by
 rw [ZaA, Zf9, List.length_append, ← ZaA, ← ZaA]
theorem ZgB (w : ByteArray) (a b : Nat) : (ByteArray.extract w a b).size ≤ w.size := by
 rw [ZaA, Zd4, List.length_drop, List.length_take, ← ZaA]; omega
theorem Zlm (w : ByteArray) (a b : Nat) : (ByteArray.extract w 0 a).size + (ByteArray.extract w b w.size).size ≤ a + (w.size - b) := by
 rw [ZaA, ZaA, Zd4, Zd4, List.length_drop, List.length_drop, List.length_take, List.length_take, ← ZaA]; omega
theorem Zmm {e : List V} (he : Zcb e) (f : Fl) {b : ByteArray} (hb : 0 < b.size) (hb2 : b.size ≤ 1000) : ∀ (d n : Nat) (w : ByteArray) (at0 seed : Int), d ≤ 10 → d < n → w.size + d ≤ 1000000 → 0 ≤ at0 → at0 + 6 * d ≤ Zbp →
  ∃ w' at' seed', w'.size ≤ w.size + d ∧ at0 ≤ at' ∧ at' ≤ at0 + 6 * d ∧ ∀ (R : Type) (k0 : ByteArray → List V → Fl → Int → Int → Option R), ZcP N b k0 n w (d : Int) e f at0 seed = k0 w' e f at' seed' := by
 intro d
 induction d with
 | zero =>
  intro n w at0 seed hd hn hw h0 h1
  obtain ⟨n, rfl⟩ : ∃ m, n = m + 1 := ⟨n - 1, by omega⟩
  exact ⟨w, at0, seed, by omega, by omega, by omega, fun R k0 => rfl⟩
 | succ d ih =>
  intro n w at0 seed hd hn hw h0 h1
  unfold Zbp at *
  obtain ⟨n, rfl⟩ : ∃ m, n = m + 1 := ⟨n - 1, by omega⟩
  have hd0 : decide (((d + 1 : Nat) : Int) > 0) = true := decide_eq_true (by omega)
  by_cases hz : w.size = 0
  ·refine ⟨w, at0, seed, by omega, by omega, by omega, fun R k0 => ?_⟩
   simp only [ZcP, Zb4, hd0, decide_eq_false (show ¬ ((w.size : Int) > 0) by omega)]
  ·obtain ⟨i, a1, s1, p1, p2, p3, p4, p5⟩ := Zhq N he f seed (w.size : Int) h0 (by unfold Zbp; omega)
   obtain ⟨j, a2, s2, q1, q2, q3, q4, q5⟩ := Zhq N he f s1 (b.size : Int) (at_ := a1) (by omega) (by unfold Zbp; omega)
   obtain ⟨t, a3, s3, r1, r2, r3, r4, r5⟩ := Zhq N he f s2 3 (at_ := a2) (by omega) (by unfold Zbp; omega)
   have hi : i < (w.size : Int) := by omega
   obtain ⟨jn, rfl⟩ := Int.eq_ofNat_of_zero_le q1
   have hj : jn < (bl b).length := by rw [← ZaA]; omega
   have hwd : IntKind.i64.wrap (((d + 1 : Nat) : Int) - 1) = (d : Int) := by rw [Za7 (by omega) (by omega)]; omega
   have hwi : IntKind.i64.wrap (i + 1) = i + 1 := Za7 (by omega) (by omega)
   obtain ⟨in_, rfl⟩ := Int.eq_ofNat_of_zero_le p1
   have hwn : ((in_ : Int) + 1).toNat = in_ + 1 := by omega
   have fin : ∀ w1 : ByteArray, w1.size ≤ w.size + 1 → (∀ (R : Type) (k0 : ByteArray → List V → Fl → Int → Int → Option R), ZcP N b k0 (n + 1) w ((d + 1 : Nat) : Int) e f at0 seed = ZcP N b k0 n w1 (d : Int) e f a3 s3) →
     ∃ w' at' seed', w'.size ≤ w.size + (d + 1) ∧ at0 ≤ at' ∧ at' ≤ at0 + 6 * ((d + 1 : Nat) : Int) ∧ ∀ (R : Type) (k0 : ByteArray → List V → Fl → Int → Int → Option R), ZcP N b k0 (n + 1) w ((d + 1 : Nat) : Int) e f at0 seed = k0 w' e f at' seed' := by
    intro w1 hw1 heq
    obtain ⟨w', a', s', z1, z2, z3, z4⟩ := ih n w1 a3 s3 (by omega) (by omega) (by omega) (by omega) (by omega)
    exact ⟨w', a', s', by omega, by omega, by omega, fun R k0 => (heq R k0).trans (z4 R k0)⟩
   obtain ⟨c, hc, hcs⟩ : ∃ c : List Int, Zwz [.int .u8 ((at_ (bl b) jn).toNat : Int)] = some c ∧ (strOfNums c).size = 1 := by
    refine ⟨_, rfl, ?_⟩
    rfl
   have e1 := ZgB w 0 in_
   have e2 := Zlm w in_ in_
   have e3 := Zlm w in_ (in_ + 1)
   have e4 := ZgB w in_ w.size
   have e5 := ZgB w (in_ + 1) w.size
   by_cases t0 : t = 0
   ·refine fin (((ByteArray.extract w 0 in_) ++ (strOfNums c)) ++ (ByteArray.extract w in_ w.size)) (by rw [Za3, Za3]; omega) fun R k0 => ?_
    simp only [ZcP, Zb4, hd0, decide_eq_true (show ((w.size : Int) > 0) by omega), p5, q5, Zbu b hj, hc, r5, t0, beq_self_eq_true, hwd, Int.toNat_natCast]
    rw [if_pos (by omega), if_pos (by omega), if_pos (by omega), if_pos (by rw [Za3]; omega)]
   ·by_cases t1 : t = 1
    ·refine fin (((ByteArray.extract w 0 in_) ++ (strOfNums c)) ++ (ByteArray.extract w (in_ + 1) w.size)) (by rw [Za3, Za3]; omega) fun R k0 => ?_
     simp only [ZcP, Zb4, hd0, decide_eq_true (show ((w.size : Int) > 0) by omega), p5, q5, Zbu b hj, hc, r5, t1, beq_self_eq_true, hwd, hwi, Int.toNat_natCast, hwn, show ((1 : Int) == 0) = false from rfl]
     rw [if_pos (by omega), if_pos (by omega), if_pos (by omega), if_pos (by rw [Za3]; omega)]
    ·refine fin ((ByteArray.extract w 0 in_) ++ (ByteArray.extract w (in_ + 1) w.size)) (by rw [Za3]; omega) fun R k0 => ?_
     simp only [ZcP, Zb4, hd0, decide_eq_true (show ((w.size : Int) > 0) by omega), p5, q5, Zbu b hj, hc, r5, hwd, hwi, Int.toNat_natCast, hwn, show (t == 0) = false from beq_false_of_ne t0, show (t == 1) = false from beq_false_of_ne t1]
     rw [if_pos (by omega), if_pos (by omega), if_pos (by omega)]
theorem ZvB {e : List V} (he : Zcb e) (f : Fl) {b : ByteArray} (hb : 0 < b.size) (hb2 : b.size ≤ 1000) (hN : 100 < N) {w : ByteArray} (hw : w.size ≤ 1000) {at0 : Int} (seed : Int) (h0 : 0 ≤ at0) (h1 : at0 + 14 ≤ Zbp) :
  ∃ w' at' seed', w'.size ≤ w.size + 2 ∧ at0 ≤ at' ∧ at' ≤ at0 + 14 ∧ ∀ (R : Type) (k : ByteArray → List V → Fl → Int → Int → Option R), Zt2 N w b e f at0 seed k = k w' e f at' seed' := by
 unfold Zbp at *
 obtain ⟨v, a1, s1, p1, p2, p3, p4, p5⟩ := Zhq N he f seed 2 h0 (by unfold Zbp; omega)
 have hv : v < 2 := by omega
 have hw1 : IntKind.i64.wrap (1 + v) = ((1 + v.toNat : Nat) : Int) := by rw [Za7 (by omega) (by omega)]; omega
 obtain ⟨w', a', s', z1, z2, z3, z4⟩ := Zmm N he f hb hb2 (1 + v.toNat) N w a1 s1 (by omega) (by omega) (by omega) (by omega) (by unfold Zbp; omega)
 refine ⟨w', a', s', by omega, by omega, by omega, fun R k => ?_⟩
 rw [ZnB]
 unfold ZjV
 rw [p5, hw1]
 exact z4 R k
theorem ZrS {e : List V} (he : Zcb e) (f : Fl) : ∀ (d n : Nat) (w : ByteArray) (at0 seed : Int), d ≤ 10 → d < n → w.size + 4 * d ≤ 1000000 → 0 ≤ at0 → at0 + 4 * d ≤ Zbp →
  ∃ w' at' seed', w'.size ≤ w.size + 4 * d ∧ at0 ≤ at' ∧ at' ≤ at0 + 4 * d ∧ ∀ (R : Type) (k0 : ByteArray → List V → Fl → Int → Int → Option R), ZfP N k0 n w (d : Int) e f at0 seed = k0 w' e f at' seed' := by
 intro d
 induction d with
 | zero =>
  intro n w at0 seed hd hn hw h0 h1
  obtain ⟨n, rfl⟩ : ∃ m, n = m + 1 := ⟨n - 1, by omega⟩
  exact ⟨w, at0, seed, by omega, by omega, by omega, fun R k0 => rfl⟩
 | succ d ih =>
  intro n w at0 seed hd hn hw h0 h1
  unfold Zbp at *
  obtain ⟨n, rfl⟩ : ∃ m, n = m + 1 := ⟨n - 1, by omega⟩
  have hd0 : decide (((d + 1 : Nat) : Int) > 0) = true := decide_eq_true (by omega)
  obtain ⟨u, a1, s1, p1, p2, p3, p4⟩ := Zze N he f seed [ByteArray.mk #[97], ByteArray.mk #[98], ByteArray.mk #[99], ByteArray.mk #[46], ByteArray.mk #[46, 46], ByteArray.mk #[100, 49]] .sh (by simp) h0 (by unfold Zbp; omega)
  obtain ⟨v, a2, s2, q1, q2, q3, q4⟩ := Zze N he f s1 [ByteArray.mk #[47], ByteArray.mk #[47], ByteArray.mk #[47, 47]] .sh (by simp) (at0 := a1) (by omega) (by unfold Zbp; omega)
  have hu : u.size ≤ 2 := by
   have : ∀ x ∈ [ByteArray.mk #[97], ByteArray.mk #[98], ByteArray.mk #[99], ByteArray.mk #[46], ByteArray.mk #[46, 46], ByteArray.mk #[100, 49]], x.size ≤ 2 := by decide
   exact this u p1
  have hv : v.size ≤ 2 := by
   have : ∀ x ∈ [ByteArray.mk #[47], ByteArray.mk #[47], ByteArray.mk #[47, 47]], x.size ≤ 2 := by decide
   exact this v q1
  have hwd : IntKind.i64.wrap (((d + 1 : Nat) : Int) - 1) = (d : Int) := by rw [Za7 (by omega) (by omega)]; omega
  obtain ⟨w', a', s', z1, z2, z3, z4⟩ := ih n (w ++ (u ++ v)) a2 s2 (by omega) (by omega) (by rw [Za3, Za3]; omega) (by omega) (by omega)
  rw [Za3, Za3] at z1
  refine ⟨w', a', s', by omega, by omega, by omega, fun R k0 => ?_⟩
  rw [ZfP, Zdf, hd0]
  refine (p4 R _).trans ((q4 R _).trans ?_)
  rw [if_pos (by omega), if_pos (by rw [Za3]; omega), hwd]
  exact z4 R k0
theorem Zlh {e : List V} (he : Zcb e) (f : Fl) (hN : 100 < N) {at0 : Int} (seed : Int) (h0 : 0 ≤ at0) (h1 : at0 + 60 ≤ Zbp) :
  ∃ w at' seed', w.size ≤ 60 ∧ at0 ≤ at' ∧ at' ≤ at0 + 60 ∧ ∀ (R : Type) (k : ByteArray → List V → Fl → Int → Int → Option R), Zhz N e f at0 seed k = k w e f at' seed' := by
 unfold Zbp at *
 obtain ⟨u, a1, s1, p1, p2, p3, p4⟩ := Zze N he f seed [ByteArray.mk #[47], ByteArray.mk #[], ByteArray.mk #[47], ByteArray.mk #[47, 47]] .sh (by simp) h0 (by unfold Zbp; omega)
 have hu : u.size ≤ 2 := by
  have : ∀ x ∈ [ByteArray.mk #[47], ByteArray.mk #[], ByteArray.mk #[47], ByteArray.mk #[47, 47]], x.size ≤ 2 := by decide
  exact this u p1
 obtain ⟨v, a2, s2, q1, q2, q3, q4, q5⟩ := Zhq N he f s1 4 (at_ := a1) (by omega) (by unfold Zbp; omega)
 obtain ⟨vn, rfl⟩ := Int.eq_ofNat_of_zero_le q1
 obtain ⟨w, a3, s3, r1, r2, r3, r4⟩ := ZrS N he f vn N u a2 s2 (by omega) (by omega) (by omega) (by omega) (by unfold Zbp; omega)
 obtain ⟨t, a4, s4, t1, t2, t3, t4⟩ := Zze N he f s3 [ByteArray.mk #[97], ByteArray.mk #[98], ByteArray.mk #[46], ByteArray.mk #[46, 46], ByteArray.mk #[]] .sh (by simp) (at0 := a3) (by omega) (by unfold Zbp; omega)
 have ht : t.size ≤ 2 := by
  have : ∀ x ∈ [ByteArray.mk #[97], ByteArray.mk #[98], ByteArray.mk #[46], ByteArray.mk #[46, 46], ByteArray.mk #[]], x.size ≤ 2 := by decide
  exact this t t1
 obtain ⟨b, a5, s5, b1, b2, b3⟩ := ZyE N he f s4 20 (at_ := a4) (by omega) (by unfold Zbp; omega)
 obtain ⟨w', a6, s6, c1, c2, c3, c4⟩ := ZvB N he f (b := ByteArray.mk #[47, 65, 46]) (by decide) (by decide) hN (w := w ++ t) (by rw [Za3]; omega) s5 (at0 := a5) (by omega) (by unfold Zbp; omega)
 rw [Za3] at c1
 have go : ∀ (R : Type) (k : ByteArray → List V → Fl → Int → Int → Option R), Zhz N e f at0 seed k = match b with
   | true => k w' e f a6 s6
   | false => k (w ++ t) e f a5 s5 := fun R k => by
  rw [Zpb]
  unfold Zkv
  refine (p4 R _).trans ((q5 R _).trans ((r4 R _).trans ((t4 R _).trans ?_)))
  rw [if_pos (by omega)]
  refine (b3 R _).trans ?_
  cases b with
  | true => exact c4 R k
  | false => rfl
 cases b with
 | true => exact ⟨w', a6, s6, by omega, by omega, by omega, go⟩
 | false => exact ⟨w ++ t, a5, s5, by rw [Za3]; omega, by omega, by omega, go⟩
theorem ZhC {e : List V} (he : Zcb e) (f : Fl) (hN : 100 < N) : ∃ w, w.size ≤ 60 ∧ ∀ (R : Type) (k : ByteArray → Option R), Zuj N e f k = k w := by
 obtain ⟨w, a, s, p1, p2, p3, p4⟩ := Zlh N he f.noOwn.noOwn hN 0 (at0 := 0) (by omega) (by unfold Zbp; omega)
 refine ⟨w, p1, fun R k => ?_⟩
 rw [Zps]
 unfold Zjs
 exact p4 R _
end
end Go.VM.VL
set_option linter.unusedSimpArgs false
set_option linter.unusedVariables false
namespace Go.VM.VL
open Go
section
def Pt (p : ByteArray) : Prop := p.size ≠ 0 ∧ ∀ x ∈ bl p, x ≠ 47
def ZaS (ps : List ByteArray) : List UInt8 := (ps.map fun p => 47 :: bl p).flatten
theorem Zdw : ZaS [] = [] := rfl
theorem Za6 (p : ByteArray) (ps : List ByteArray) : ZaS (p :: ps) = 47 :: (bl p ++ ZaS ps) := by simp [ZaS]
theorem Zdc (a b : List ByteArray) : ZaS (a ++ b) = ZaS a ++ ZaS b := by simp [ZaS]
theorem ZbS (ps : List ByteArray) : bl (ZbD ps) = if ps = [] then [47] else ZaS ps := by
 unfold ZbD
 split <;> rfl
def Zoe (ps : List ByteArray) : ByteArray := ba ((ZaS ps).drop 1)
theorem ZgL (p : ByteArray) (ps : List ByteArray) : bl (Zoe (p :: ps)) = bl p ++ ZaS ps := by
 unfold Zoe
 rw [Za6]; rfl
theorem Zey : ∀ (ps : List ByteArray) (p : ByteArray), Pt p → (∀ q ∈ ps, Pt q) → ZaU 47 (bl p ++ ZaS ps) = (p :: ps).map bl
 | [], p, hp, _ => by
  rw [Zdw, List.append_nil, ZgW 47 _ hp.2]; rfl
 | q :: ps, p, hp, h => by
  rw [Za6, Zg1, ZgW 47 _ hp.2, Zey ps q (h q (by simp)) fun r hr => h r (by simp [hr])]
  rfl
theorem Zlb (ps : List ByteArray) : (ps.map bl).map ba = ps := by
 rw [List.map_map]
 exact List.map_id _
theorem Zpf {p : ByteArray} (h : Pt p) : ZbH p = false := by
 rw [Zcq]
 exact decide_eq_false h.1
theorem Zo8 {ps : List ByteArray} (h : ∀ q ∈ ps, Pt q) : (ps.filter fun p => !ZbH p) = ps := by
 rw [List.filter_eq_self]
 intro q hq
 rw [Zpf (h q hq)]; rfl
theorem ZrT {ps : List ByteArray} (hne : ps ≠ []) (h : ∀ q ∈ ps, Pt q) : ZaM (Zoe ps) = ps := by
 cases ps with
 | nil => exact absurd rfl hne
 | cons p ps =>
  unfold ZaM Za0
  rw [ZgL, Zey ps p (h p (by simp)) fun r hr => h r (by simp [hr]), Zlb]
  exact Zo8 h
theorem Zhh : ZbH (ba []) = true := by rw [Zcq]; rfl
theorem ZhR {ps : List ByteArray} (h : ∀ q ∈ ps, Pt q) : ZaM (ZbD ps) = ps := by
 cases ps with
 | nil =>
  unfold ZaM Za0
  rw [ZbS, if_pos rfl, ZbV rfl]
  show List.filter (fun p => !ZbH p) [ba [], ba []] = []
  simp [List.filter, Zhh]
 | cons p ps =>
  unfold ZaM Za0
  rw [ZbS, if_neg (by simp), Za6]
  have := Zg1 47 [] (bl p ++ ZaS ps)
  rw [List.nil_append] at this
  rw [this, Zey ps p (h p (by simp)) fun r hr => h r (by simp [hr]), show ZaU 47 [] = [[]] from rfl, List.singleton_append, List.map_cons, Zlb, List.filter_cons]
  rw [Zhh]
  exact Zo8 h
theorem Zix {a b : List ByteArray} (ha : ∀ q ∈ a, Pt q) (hb : ∀ q ∈ b, Pt q) (h : ZbD a = ZbD b) : a = b := by
 rw [← ZhR ha, ← ZhR hb, h]
theorem ZeY (c : UInt8) : ∀ l, ∀ p ∈ ZaU c l, ∀ x ∈ p, x ≠ c
 | [], p, hp, x, hx => by
  simp only [ZaU, List.mem_singleton] at hp
  subst hp; cases hx
 | b :: l, p, hp, x, hx => by
  by_cases hb : b = c
  ·rw [ZbV hb] at hp
   rcases List.mem_cons.1 hp with rfl | hp
   ·cases hx
   ·exact ZeY c l p hp x hx
  ·rw [ZbK hb] at hp
   cases hs : ZaU c l with
   | nil => exact absurd hs (Zcl c l)
   | cons q qs =>
    rw [hs] at hp
    rcases List.mem_cons.1 hp with rfl | hp
    ·rcases List.mem_append.1 hx with hx | hx
     ·rw [List.mem_singleton.1 hx]; exact hb
     ·exact ZeY c l q (by rw [hs]; simp) x hx
    ·exact ZeY c l p (by rw [hs]; simp [hp]) x hx
theorem Zu2 {w p : ByteArray} (h : p ∈ ZaM w) : Pt p := by
 unfold ZaM at h
 obtain ⟨h1, h2⟩ := List.mem_filter.1 h
 refine ⟨?_, ?_⟩
 ·intro h0
  rw [Zcq, decide_eq_true h0] at h2
  cases h2
 ·unfold Za0 at h1
  obtain ⟨q, hq, rfl⟩ := List.mem_map.1 h1
  exact ZeY 47 (bl w) q hq
def Nm (p : ByteArray) : Prop := Zhu p = false ∧ ZbI p = false
def ZpN (l : List ByteArray) : Prop := ∀ p ∈ l, ZbI p = true
theorem ZdO {p : ByteArray} (h : ZbI p = true) : Zhu p = false := by
 unfold ZbI Zhu at *
 rw [beq_iff_eq] at h
 rw [h]; decide +kernel
structure Cln (root : Bool) (xs : List ByteArray) : Prop where
 ex : ∃ d m : List ByteArray, xs = d ++ m ∧ ZpN d ∧ (∀ p ∈ m, Nm p) ∧ (root = true → d = [])
theorem Zl1 (l : List ByteArray) (p : ByteArray) : at_ (l ++ [p]) ((l ++ [p]).length - 1) = p := by
 rw [List.length_append, List.length_singleton, Nat.add_sub_cancel, ZwA]
theorem Zh7 {root : Bool} {xs : List ByteArray} {p : ByteArray} (hp : ZbI p = true) (h : xs = [] ∨ ZbI (at_ xs (xs.length - 1)) = true) : Zbb root xs p = if root then xs else xs ++ [p] := by
 unfold Zbb
 rw [ZdO hp, hp]
 rcases h with rfl | h
 ·simp
 ·rw [h]; simp
theorem ZhH {root : Bool} {xs : List ByteArray} {p : ByteArray} (hp : Nm p) : Zbb root xs p = xs ++ [p] := by
 unfold Zbb
 rw [hp.1, hp.2]; simp
theorem ZvP {root : Bool} {xs : List ByteArray} {p q : ByteArray} (hp : ZbI p = true) (hq : ZbI q = false) : Zbb root (xs ++ [q]) p = xs := by
 unfold Zbb
 rw [ZdO hp, hp, Zl1, hq]
 have h1 : decide (0 < (xs ++ [q]).length) = true := decide_eq_true (by simp)
 rw [h1]
 simp
theorem ZfQ {α : Type} (l : List α) : l = [] ∨ ∃ l' a, l = l' ++ [a] := by
 rcases List.eq_nil_or_concat l with h | ⟨l', a, h⟩
 ·exact .inl h
 ·exact .inr ⟨l', a, by simpa using h⟩
theorem Zki {d : List ByteArray} (hd : ZpN d) : d = [] ∨ ZbI (at_ d (d.length - 1)) = true := by
 rcases ZfQ d with rfl | ⟨l, a, rfl⟩
 ·exact .inl rfl
 ·rw [Zl1]; exact .inr (hd a (by simp))
theorem Cln.step {root : Bool} {xs : List ByteArray} (h : Cln root xs) (p : ByteArray) : Cln root (Zbb root xs p) := by
 obtain ⟨d, m, rfl, hd, hm, hr⟩ := h.ex
 cases h1 : Zhu p with
 | true => unfold Zbb; rw [h1]; exact ⟨d, m, rfl, hd, hm, hr⟩
 | false =>
  cases h2 : ZbI p with
  | false =>
   rw [ZhH ⟨h1, h2⟩]
   refine ⟨d, m ++ [p], by simp, hd, fun q hq => ?_, hr⟩
   rcases List.mem_append.1 hq with hq | hq
   ·exact hm q hq
   ·rw [List.mem_singleton.1 hq]; exact ⟨h1, h2⟩
  | true =>
   rcases ZfQ m with rfl | ⟨m, q, rfl⟩
   ·rw [List.append_nil, Zh7 h2 (Zki hd)]
    split
    ·rename_i hroot
     exact ⟨d, [], by simp, hd, by simp, hr⟩
    ·rename_i hroot
     refine ⟨d ++ [p], [], by simp, fun q hq => ?_, by simp, fun h => absurd h hroot⟩
     rcases List.mem_append.1 hq with hq | hq
     ·exact hd q hq
     ·rw [List.mem_singleton.1 hq]; exact h2
   ·rw [← List.append_assoc, ZvP h2 (hm q (by simp)).2]
    exact ⟨d, m, rfl, hd, fun r hr => hm r (by simp [hr]), hr⟩
theorem Cln.fold {root : Bool} : ∀ (ps : List ByteArray) {xs : List ByteArray}, Cln root xs → Cln root (ps.foldl (Zbb root) xs)
 | [], _, h => h
 | p :: ps, _, h => Cln.fold ps (h.step p)
theorem Cln.nil (root : Bool) : Cln root [] := ⟨[], [], rfl, by simp [ZpN], by simp, fun _ => rfl⟩
theorem ZvZ (root : Bool) (ps : List ByteArray) : Cln root (ZbU root ps) := Cln.fold ps (Cln.nil root)
theorem Zf2 {root : Bool} : ∀ (m : List ByteArray) {xs : List ByteArray}, (∀ p ∈ m, Nm p) → m.foldl (Zbb root) xs = xs ++ m
 | [], xs, _ => by simp
 | p :: m, xs, h => by
  rw [List.foldl_cons, ZhH (h p (by simp)), Zf2 m fun q hq => h q (by simp [hq])]
  simp
theorem Zj5 : ∀ (d : List ByteArray) {xs : List ByteArray}, ZpN d → ZpN xs → d.foldl (Zbb false) xs = xs ++ d
 | [], xs, _, _ => by simp
 | p :: d, xs, h, hx => by
  rw [List.foldl_cons, Zh7 (h p (by simp)) (Zki hx)]
  simp only [Bool.false_eq_true, if_false]
  rw [Zj5 d (fun q hq => h q (by simp [hq])) fun q hq => ?_]
  ·simp
  ·rcases List.mem_append.1 hq with hq | hq
   ·exact hx q hq
   ·rw [List.mem_singleton.1 hq]; exact h p (by simp)
theorem Zxj {root : Bool} {xs : List ByteArray} (h : Cln root xs) : ZbU root xs = xs := by
 obtain ⟨d, m, rfl, hd, hm, hr⟩ := h.ex
 unfold ZbU
 rw [List.foldl_append, Zf2 m hm]
 cases root with
 | true => rw [hr rfl]; rfl
 | false => rw [Zj5 d hd (by simp [ZpN])]; simp
theorem Zp7 {root : Bool} {xs : List ByteArray} {p q : ByteArray} (h : q ∈ Zbb root xs p) : q ∈ xs ∨ q = p := by
 unfold Zbb at h
 split at h
 ·exact .inl h
 ·split at h
  ·split at h
   ·exact .inl (List.mem_of_mem_take h)
   ·split at h
    ·exact .inl h
    ·rcases List.mem_append.1 h with h | h
     ·exact .inl h
     ·exact .inr (List.mem_singleton.1 h)
  ·rcases List.mem_append.1 h with h | h
   ·exact .inl h
   ·exact .inr (List.mem_singleton.1 h)
theorem ZoQ {root : Bool} : ∀ (ps : List ByteArray) {xs : List ByteArray} {q : ByteArray}, q ∈ ps.foldl (Zbb root) xs → q ∈ xs ∨ q ∈ ps
 | [], xs, q, h => .inl h
 | p :: ps, xs, q, h => by
  rcases ZoQ ps h with h | h
  ·rcases Zp7 h with h | rfl
   ·exact .inl h
   ·exact .inr (by simp)
  ·exact .inr (by simp [h])
theorem Zg2 {root : Bool} {ps : List ByteArray} {q : ByteArray} (h : q ∈ ZbU root ps) : q ∈ ps := by
 rcases ZoQ ps h with h | h
 ·cases h
 ·exact h
theorem ZhD (xs : List ByteArray) (n : Nat) : (ZaS (xs.take n)).length ≤ (ZaS xs).length := by
 conv => rhs; rw [← List.take_append_drop n xs, Zdc, List.length_append]
 omega
theorem Znp (root : Bool) (xs : List ByteArray) (p : ByteArray) : (ZaS (Zbb root xs p)).length ≤ (ZaS xs).length + (ZaS [p]).length := by
 have h := ZhD xs (xs.length - 1)
 unfold Zbb
 split
 ·omega
 ·split
  ·split
   ·omega
   ·split
    ·omega
    ·rw [Zdc, List.length_append]; exact Nat.le_refl _
  ·rw [Zdc, List.length_append]; exact Nat.le_refl _
theorem Zlu (root : Bool) : ∀ (ps xs : List ByteArray), (ZaS (ps.foldl (Zbb root) xs)).length ≤ (ZaS xs).length + (ZaS ps).length
 | [], xs => by simp [ZaS]
 | p :: ps, xs => by
  have h1 := Zlu root ps (Zbb root xs p)
  have h2 := Znp root xs p
  have h3 : (ZaS (p :: ps)).length = (ZaS [p]).length + (ZaS ps).length := by
   rw [← List.length_append, ← Zdc]; rfl
  rw [List.foldl_cons]
  omega
theorem ZfM (root : Bool) (ps : List ByteArray) : (ZaS (ZbU root ps)).length ≤ (ZaS ps).length := by
 have := Zlu root ps []
 rw [Zdw, List.length_nil, Nat.zero_add] at this
 exact this
theorem Zh9 : ∀ l : List UInt8, (ZaS ((ZaU 47 l).map ba)).length = l.length + 1
 | [] => rfl
 | b :: l => by
  have ih := Zh9 l
  by_cases hb : b = 47
  ·rw [ZbV hb, List.map_cons, Za6, List.length_cons, List.length_append, ih]
   show 0 + (l.length + 1) + 1 = _
   simp
  ·rw [ZbK hb]
   cases hs : ZaU 47 l with
   | nil => exact absurd hs (Zcl 47 l)
   | cons q qs =>
    rw [hs, List.map_cons, Za6, List.length_cons, List.length_append, Zf1] at ih
    show (ZaS ((([b] ++ q) :: qs).map ba)).length = _
    rw [List.map_cons, Za6, List.length_cons, List.length_append, Zf1, List.length_append, List.length_singleton, List.length_cons]
    omega
theorem Zku : ∀ ps : List ByteArray, (ZaS (ps.filter fun p => !ZbH p)).length ≤ (ZaS ps).length
 | [] => Nat.le_refl _
 | p :: ps => by
  have ih := Zku ps
  rw [List.filter_cons]
  split
  ·rw [Za6, Za6, List.length_cons, List.length_cons, List.length_append, List.length_append]; omega
  ·rw [Za6, List.length_cons, List.length_append]; omega
theorem Zec (w : ByteArray) : (ZaS (ZaM w)).length ≤ w.size + 1 := by
 have h1 := Zku (Za0 w)
 have h2 := Zh9 (bl w)
 rw [ZaA]
 unfold ZaM
 unfold Za0 at *
 omega
def Zbx (w : ByteArray) : Bool := ((((at_ (bl w) 0).toNat : Nat) : Int) == 47)
theorem Zi7 {w : ByteArray} : Zbx w = true ↔ at_ (bl w) 0 = 47 := by
 unfold Zbx
 rw [ZAO]; simp
theorem Zkc {w : ByteArray} (h : Zbx w = true) (h0 : 0 < w.size) : ∃ l, bl w = 47 :: l := by
 have h1 := Zi7.1 h
 rw [ZaA] at h0
 cases hb : bl w with
 | nil => rw [hb] at h0; simp at h0
 | cons b l => rw [hb] at h1; exact ⟨l, by rw [show b = 47 from h1]⟩
theorem ZpS {w : ByteArray} (h : Zbx w = true) (h0 : 0 < w.size) : (ZaS (ZaM w)).length ≤ w.size := by
 obtain ⟨l, hl⟩ := Zkc h h0
 have h3 : ZaM w = ZaM (ba l) := by
  unfold ZaM Za0
  rw [hl, ZbV rfl, List.map_cons, List.filter_cons, Zhh]
  rfl
 have h4 := Zec (ba l)
 have h5 : w.size = l.length + 1 := by rw [ZaA, hl]; simp
 have h6 : (ba l).size = l.length := by rw [ZaA, Zf1]
 rw [h3]
 omega
end
end Go.VM.VL
set_option linter.unusedSimpArgs false
set_option linter.unusedVariables false
namespace Go.VM.VL
open Go
section
variable {R : Type} (N : Nat)
theorem Zpv (es : List V) (ver : Nat) : Za9 [some ⟨es, 1, 9, ver⟩] 0 ver = some ⟨es, 1, 9, ver⟩ := by simp [Za9, nth]
theorem Zkd (root : Bool) {ps : List ByteArray} (hps : ps.length ≤ 1048577) {i : Nat} (hi : i < ps.length) {xs : List ByteArray} {es : List V} {ver : Nat} (hx : es.take xs.length = ZaD xs) (hl : xs.length ≤ es.length) (hxi : xs.length ≤ i)
  (nx : Nat → Nat → Int → Ob → Option R) (k0 : Nat → Nat → Ob → Option R) :
  ∃ es' ver', es'.take (Zbb root xs (at_ ps i)).length = ZaD (Zbb root xs (at_ ps i)) ∧ (Zbb root xs (at_ ps i)).length ≤ es'.length ∧
   Zci N root (ZaD ps) (ps.length : Int) nx ver xs.length (i : Int) ⟨es, 1, 9, ver⟩ k0 = nx ver' (Zbb root xs (at_ ps i)).length ((i + 1 : Nat) : Int) ⟨es', 1, 9, ver'⟩ := by
 unfold Zci
 simp only [Zcs hi, Int.natCast_nonneg, if_true, Int.toNat_natCast, ZbA hi, Zae, ZbT, Zbg (i := i) (by omega)]
 have app : ∃ es', es' = es.take xs.length ++ [V.str (at_ ps i)] ∧ es'.take (xs ++ [at_ ps i]).length = ZaD (xs ++ [at_ ps i]) ∧ (xs ++ [at_ ps i]).length ≤ es'.length := by
  refine ⟨_, rfl, ?_, ?_⟩
  ·rw [hx, ZgO, List.take_of_length_le]
   rw [ZaZ]; exact Nat.le_refl _
  ·rw [hx, ZgO, ZaZ]; exact Nat.le_refl _
 have happ : (match Za9 [some ⟨es, 1, 9, ver⟩] 0 ver with
   | some ob48 => (if xs.length ≤ ob48.es.length then (match Za9 [some { ob48 with es := (ob48.es.take xs.length) }] 0 ver with
    | some ob49 => Zak (Nat.beq ob49.elem 9) ((if True ∧ xs.length = ob49.es.length ∧ (xs.length + 1) * 16 ≤ 140737488355328 ∧ 0 < 1 then nx (ver + 1) (xs.length + 1) ((i + 1 : Nat) : Int) ({ ob49 with es := (ob49.es ++ ([.str (at_ ps i)] : List V)), ver := (ver + 1) }) else none))
    | none => none) else none)
   | none => none) = nx (ver + 1) (xs ++ [at_ ps i]).length ((i + 1 : Nat) : Int) ⟨es.take xs.length ++ [V.str (at_ ps i)], 1, 9, ver + 1⟩ := by
  simp only [Zpv, if_pos hl, Zd8, Zak, List.length_take, Nat.min_eq_left hl]
  rw [if_pos ⟨trivial, trivial, by omega, by omega⟩]
  simp
 obtain ⟨es1, he1, ha1, ha2⟩ := app
 unfold Zbb
 cases hd : Zhu (at_ ps i) with
 | true =>
  unfold Zhu at hd
  rw [hd]
  exact ⟨es, ver, hx, hl, rfl⟩
 | false =>
  unfold Zhu at hd
  rw [hd]
  simp only [Bool.false_eq_true, if_false]
  cases hdd : ZbI (at_ ps i) with
  | false =>
   unfold ZbI at hdd
   rw [hdd]
   simp only [Bool.false_eq_true, if_false, Bool.not_false]
   refine ⟨es1, ver + 1, ha1, ha2, ?_⟩
   rw [he1]
   exact happ
  | true =>
   unfold ZbI at hdd
   rw [hdd]
   simp only [if_true, Bool.not_true]
   have hroot : ∃ es' ver', es'.take ((if root = true then xs else xs ++ [at_ ps i])).length = ZaD (if root = true then xs else xs ++ [at_ ps i]) ∧
     (if root = true then xs else xs ++ [at_ ps i]).length ≤ es'.length ∧
     (match (!root) with
       | true => (match Za9 [some ⟨es, 1, 9, ver⟩] 0 ver with
   | some ob48 => (if xs.length ≤ ob48.es.length then (match Za9 [some { ob48 with es := (ob48.es.take xs.length) }] 0 ver with
    | some ob49 => Zak (Nat.beq ob49.elem 9) ((if True ∧ xs.length = ob49.es.length ∧ (xs.length + 1) * 16 ≤ 140737488355328 ∧ 0 < 1 then nx (ver + 1) (xs.length + 1) ((i + 1 : Nat) : Int) ({ ob49 with es := (ob49.es ++ ([.str (at_ ps i)] : List V)), ver := (ver + 1) }) else none))
    | none => none) else none)
   | none => none)
       | false => nx ver xs.length ((i + 1 : Nat) : Int) ⟨es, 1, 9, ver⟩) = nx ver' (if root = true then xs else xs ++ [at_ ps i]).length ((i + 1 : Nat) : Int) ⟨es', 1, 9, ver'⟩ := by
    cases root with
    | true => exact ⟨es, ver, hx, hl, rfl⟩
    | false =>
     simp only [Bool.false_eq_true, if_false, Bool.not_false]
     exact ⟨es1, ver + 1, ha1, ha2, by rw [he1]; exact happ⟩
   by_cases hn : 0 < xs.length
   ·have h2 : IntKind.i64.wrap ((xs.length : Int) - 1) = ((xs.length - 1 : Nat) : Int) := by
     rw [Za7 (by omega) (by omega)]; omega
    have h3 : nth es (0 + (xs.length - 1)) = some (.str (at_ xs (xs.length - 1))) := by
     rw [Nat.zero_add]
     have : nth (es.take xs.length) (xs.length - 1) = some (.str (at_ xs (xs.length - 1))) := by rw [hx, ZbA (by omega)]
     exact (Zb2 this).1
    have hi1 : (0 : Int) ≤ ((xs.length - 1 : Nat) : Int) ∧ ((xs.length - 1 : Nat) : Int) < (xs.length : Int) := ⟨Int.natCast_nonneg _, by omega⟩
    have hi2 : (0 : Int) ≤ ((xs.length - 1 : Nat) : Int) ∧ ((xs.length - 1 : Nat) : Int) ≤ (xs.length : Int) := ⟨Int.natCast_nonneg _, by omega⟩
    have h1 : decide (((xs.length - 1 : Nat) : Int) ≥ 0) = true := decide_eq_true (by omega)
    simp only [Zpv, Zd8, Zak, h2, h1, Int.toNat_natCast, h3, if_pos hi1, if_pos hi2, V.cells, List.drop_zero, ZdG, ZbT]
    have hdec : decide (0 < xs.length) = true := decide_eq_true hn
    rw [hdec]
    cases hq : ZbI (at_ xs (xs.length - 1)) with
    | false =>
     unfold ZbI at hq
     rw [hq]
     simp only [Bool.not_false, Bool.and_self, if_true]
     refine ⟨es, ver, ?_, ?_, ?_⟩
     ·rw [List.length_take, Nat.min_eq_left (by omega), Ze7, ← hx, List.take_take, Nat.min_eq_left (by omega)]
     ·rw [List.length_take]; omega
     ·rw [List.length_take, Nat.min_eq_left (by omega)]
    | true =>
     unfold ZbI at hq
     rw [hq]
     simp only [Bool.not_true, Bool.and_false, Bool.false_eq_true, if_false]
     simp only [Zpv] at hroot
     exact hroot
   ·have h2 : IntKind.i64.wrap ((xs.length : Int) - 1) = (xs.length : Int) - 1 := Za7 (by omega) (by omega)
    have h1 : decide ((xs.length : Int) - 1 ≥ 0) = false := decide_eq_false (by omega)
    rw [h2, h1]
    have hdec : decide (0 < xs.length) = false := decide_eq_false hn
    rw [hdec]
    simp only [Bool.false_and, Bool.false_eq_true, if_false]
    exact hroot
theorem ZmE (root : Bool) {ps : List ByteArray} (hpl : ps.length ≤ 1048577) (hN : 1048580 < N) (k0 : Nat → Nat → Ob → Option R) (r : Option R)
  (hk : ∀ es ver, es.take (ZbU root ps).length = ZaD (ZbU root ps) → (ZbU root ps).length ≤ es.length → k0 ver (ZbU root ps).length ⟨es, 1, 9, ver⟩ = r) :
  Zdk N root (ZaD ps) (ps.length : Int) k0 N 0 0 0 ⟨[], 1, 9, 0⟩ = r := by
 have key : ∀ (d n i : Nat) (xs : List ByteArray) (es : List V) (ver : Nat), i + d = ps.length → d < n → es.take xs.length = ZaD xs → xs.length ≤ es.length → xs.length ≤ i → (ps.drop i).foldl (Zbb root) xs = ZbU root ps →
   Zdk N root (ZaD ps) (ps.length : Int) k0 n ver xs.length (i : Int) ⟨es, 1, 9, ver⟩ = r := by
  intro d
  induction d with
  | zero =>
   intro n i xs es ver hi hn hx hl hxi hf
   obtain ⟨n, rfl⟩ : ∃ m, n = m + 1 := ⟨n - 1, by omega⟩
   obtain rfl : i = ps.length := by omega
   rw [List.drop_length, List.foldl_nil] at hf
   subst hf
   simp only [Zdk, Zci]
   rw [show decide ((ps.length : Int) < (ps.length : Int)) = false from decide_eq_false (by omega)]
   exact hk es ver hx hl
  | succ d ih =>
   intro n i xs es ver hi hn hx hl hxi hf
   obtain ⟨n, rfl⟩ : ∃ m, n = m + 1 := ⟨n - 1, by omega⟩
   have hlt : i < ps.length := by omega
   rw [Zdk]
   obtain ⟨es', ver', q1, q2, q3⟩ := Zkd N root (by omega) hlt hx hl hxi (fun k_5 k_6 x_4 O_9 => Zdk N root (ZaD ps) (ps.length : Int) k0 n k_5 k_6 x_4 O_9) k0
   have hdr : ps.drop i = at_ ps i :: ps.drop (i + 1) := by
    rw [List.drop_eq_getElem_cons hlt]
    congr 1
    exact (ZbE hlt).symm
   rw [hdr, List.foldl_cons] at hf
   rw [q3, ih n (i + 1) _ es' ver' (by omega) (by omega) q1 q2 (by have := ZfV root xs (at_ ps i); omega) hf]
 exact key ps.length N 0 [] [] 0 (by omega) (by omega) rfl (Nat.le_refl 0) (Nat.le_refl 0) rfl
def cl (w : ByteArray) : List ByteArray := ZbU (Zbx w) (ZaM w)
def Zdi (root : Bool) (ps : List ByteArray) : ByteArray := if root then ZbD ps else if ps = [] then ByteArray.mk #[46] else Zoe ps
def ZaK (w : ByteArray) : ByteArray := Zdi (Zbx w) (cl w)
theorem ZhE {w p : ByteArray} (h : p ∈ cl w) : Pt p := Zu2 (Zg2 h)
theorem ZiD {w p : ByteArray} (h : p ∈ cl w) : p.size ≤ w.size := ZeM (Zg2 h)
theorem Zov : ∀ {ps : List ByteArray}, (∀ p ∈ ps, Pt p) → 2 * ps.length ≤ (ZaS ps).length
 | [], _ => Nat.le_refl _
 | p :: ps, h => by
  have ih := Zov (ps := ps) fun q hq => h q (by simp [hq])
  have hp := (h p (by simp)).1
  rw [ZaA] at hp
  rw [Za6, List.length_cons, List.length_cons, List.length_append]
  omega
theorem ZhQ {w : ByteArray} (h : w.size ≤ 60) : (cl w).length ≤ 30 := by
 have h1 := Zov (ps := cl w) fun p hp => ZhE hp
 have h2 := ZfM (Zbx w) (ZaM w)
 have h3 := Zec w
 unfold cl at *
 omega
theorem ZuD {ps : List ByteArray} (hne : ps ≠ []) : (⟨(Lib.join (ps.map (·.data.toList)) (ByteArray.mk #[47]).data.toList).toArray⟩ : ByteArray) = Zoe ps := by
 have h := Zk2 ps
 have h2 : bl ((ByteArray.mk #[47]) ++ (⟨(Lib.join (ps.map (·.data.toList)) (ByteArray.mk #[47]).data.toList).toArray⟩ : ByteArray)) = bl (ZbD ps) := by rw [h]
 rw [Zf9, ZbS, if_neg hne] at h2
 have h3 : (ZaS ps).drop 1 = Lib.join (ps.map (·.data.toList)) (ByteArray.mk #[47]).data.toList := by
  rw [← h2]; simp [bl]
 unfold Zoe
 rw [h3]
 rfl
theorem ZiI {w : ByteArray} (h1 : 0 < w.size) (h2 : w.size ≤ 60) (hN : 1048580 < N) (k : ByteArray → Option R) : ZmM N w k = k (ZaK w) := by
 rw [Zn7]
 unfold Zlw
 have hb0 : 0 < (bl w).length := by rw [← ZaA]; exact h1
 have hb := Zbu (R := R) w (i := 0) hb0
 simp only [Int.ofNat_zero, Int.natCast_zero] at hb
 rw [hb, Zlz N (by omega) hN, ZaZ]
 have hpl := Zd7 w
 have hl := ZhQ h2
 have hs : ∀ p ∈ cl w, p.size ≤ 1048576 := fun p hp => by have := ZiD hp; omega
 show Zdk N (Zbx w) (ZaD (ZaM w)) ((ZaM w).length : Int) _ N 0 0 0 ⟨[], 1, 9, 0⟩ = _
 refine ZmE N (Zbx w) (by omega) hN _ _ fun es ver hx hle => ?_
 change es.take (cl w).length = ZaD (cl w) at hx
 change (cl w).length ≤ es.length at hle
 show (match Zbx w with
  | true => _
  | false => _) = _
 simp only [Zpv, List.drop_zero, show (ZbU (Zbx w) (ZaM w)) = cl w from rfl, hx, Zmu, Nat.zero_add, decide_eq_true hle, Zak, Zd8, ZsC]
 unfold ZaK Zdi
 cases hr : Zbx w with
 | true => simp only [if_true]; exact ZuT N (by omega) hs _ _
 | false =>
  simp only [Bool.false_eq_true, if_false]
  by_cases hc : cl w = []
  ·rw [hc, if_pos rfl]; rfl
  ·rw [if_neg hc]
   have hlen : ((cl w).length : Int) ≠ 0 := by
    have : (cl w).length ≠ 0 := fun h => hc (List.eq_nil_of_length_eq_zero h)
    omega
   rw [show (((cl w).length : Int) == 0) = false from beq_false_of_ne hlen]
   simp only
   rw [Zi5]
   unfold Zh2 Ztj
   rw [ZrI]
   have hj := Zog (cl w) hs
   exact (if_pos ⟨by omega, Nat.le_trans hj (by omega)⟩).trans (by rw [ZuD hc])
theorem Zm4 {ps : List ByteArray} : ByteArray.extract (ZbD ps) 1 (ZbD ps).size = ba ((bl (ZbD ps)).drop 1) := by
 rw [ZbJ, ZaA, List.take_length]
theorem Zit (ps : List ByteArray) : 1 ≤ (ZbD ps).size := by
 rw [ZaA, ZbS]
 split
 ·simp
 ·cases ps with
  | nil => contradiction
  | cons p ps => rw [Za6]; simp
theorem Zi2 {w : ByteArray} (h1 : 0 < w.size) (h2 : w.size ≤ 60) (hN : 1048580 < N) (k : ByteArray → Option R) : Zua N w k = k (ZaK w) := by
 rw [Zor]
 unfold Zkj
 have hb0 : 0 < (bl w).length := by rw [← ZaA]; exact h1
 have hb := Zbu (R := R) w (i := 0) hb0
 simp only [Int.ofNat_zero, Int.natCast_zero] at hb
 rw [Zc8 N (by omega) h1 hN, hb]
 have hl := ZhQ h2
 have hs : ∀ p ∈ cl w, p.size ≤ 1048576 := fun p hp => by have := ZiD hp; omega
 show (match Zbx w with
  | true => Zi1 N (ZaD (cl w)) .sh _
  | false => (match (((ZaD (cl w)).length : Int) == 0) with
   | true => _
   | false => Zi1 N (ZaD (cl w)) .sh _)) = _
 rw [ZoB N (by omega) hs hN, ZoB N (by omega) hs hN, ZaZ]
 unfold ZaK Zdi
 cases hr : Zbx w with
 | true => rfl
 | false =>
  simp only [Bool.false_eq_true, if_false]
  by_cases hc : cl w = []
  ·rw [hc, if_pos rfl]; rfl
  ·rw [if_neg hc]
   have hlen : ((cl w).length : Int) ≠ 0 := by
    have : (cl w).length ≠ 0 := fun h => hc (List.eq_nil_of_length_eq_zero h)
    omega
   rw [show (((cl w).length : Int) == 0) = false from beq_false_of_ne hlen]
   simp only
   have := Zit (cl w)
   rw [if_pos ⟨by omega, by omega⟩, Zm4, ZbS, if_neg hc]
   rfl
def Zdm (w : ByteArray) : ByteArray := if ZbQ w then ZaK w else ByteArray.mk #[]
theorem Zcr {w : ByteArray} (hw : w.size ≤ 1048576) (hN : 1048580 < N) (k : ByteArray → Bool → Option R) : ZkB N w k = k (Zdm w) (ZbQ w) := by
 rw [Zpo]
 unfold Zk0 Zdm
 rw [Zdq N hw hN]
 cases hp : ZbQ w with
 | false => rfl
 | true =>
  have := Zba hp
  simp only [Bool.not_true, if_true]
  rw [ZiI N (by omega) (by omega) hN]
theorem Zy8 {w : ByteArray} (hw : w.size ≤ 1048576) (hN : 1048580 < N) (k : ByteArray → Bool → Option R) : ZrA N w k = k (Zdm w) (ZbQ w) := by
 rw [Zom]
 unfold Zk8 Zdm
 rw [Ze8 N hw hN]
 cases hp : ZbQ w with
 | false => rfl
 | true =>
  have := Zba hp
  simp only [Bool.not_true, if_true]
  rw [Zi2 N (by omega) (by omega) hN]
end
end Go.VM.VL
set_option linter.unusedSimpArgs false
set_option linter.unusedVariables false
namespace Go.VM.VL
open Go
section
variable {R : Type} (N : Nat)
theorem ZbM {a b : ByteArray} : (a.toList == b.toList) = decide (a = b) := by
 by_cases h : a = b
 ·rw [h, decide_eq_true rfl]; simp
 ·rw [decide_eq_false h]
  apply beq_false_of_ne
  intro h2
  rw [ByteArray.toList_eq, ByteArray.toList_eq] at h2
  exact h (by rw [← Zhg a, ← Zhg b, show bl a = bl b from h2])
def ZfI (a s : ByteArray) : ByteArray := if Zbx s then s else (a ++ ByteArray.mk #[47]) ++ s
theorem Zx9 (w : ByteArray) : ((((at_ (bl w) 0).toNat : Nat) : Int) != 47) = !Zbx w := rfl
theorem Zld {a s : ByteArray} (ha : a.size ≤ 60) (hs : s.size ≤ 60) : (ZfI a s).size ≤ 121 := by
 unfold ZfI
 have h1 : (ByteArray.mk #[47]).size = 1 := rfl
 split
 ·omega
 ·rw [Za3, Za3]; omega
theorem ZtQ {w : ByteArray} (h : 0 < w.size) (k : Int → Option R) : ZbZ w 0 k = k ((at_ (bl w) 0).toNat : Int) := by
 have hb0 : 0 < (bl w).length := by rw [← ZaA]; exact h
 have hb := Zbu (R := R) w (i := 0) hb0
 simp only [Int.ofNat_zero, Int.natCast_zero] at hb
 exact hb k
theorem ZhF {a s : ByteArray} (ha : a.size ≤ 1048576) (hs : s.size ≤ 1048576) (hN : 1048580 < N) (k : ByteArray → Bool → Option R) :
  ZtG N a s k = if ZbQ a && ZbQ s then k (Zdm (ZfI a s)) (ZbQ (ZfI a s)) else k (ByteArray.mk #[]) false := by
 rw [ZoN]
 unfold ZlA
 rw [Zdq N ha hN]
 cases hpa : ZbQ a with
 | false => rfl
 | true =>
  simp only [Bool.not_true, Bool.true_and]
  rw [Zdq N hs hN]
  cases hps : ZbQ s with
  | false => rfl
  | true =>
   have q1 := Zba hpa
   have q2 := Zba hps
   have q3 := Zld q1.2 q2.2
   have h1 : (ByteArray.mk #[47]).size = 1 := rfl
   simp only [Bool.not_true, if_true]
   rw [ZtQ (by omega), Zx9]
   unfold ZfI at *
   cases hr : Zbx s with
   | true =>
    rw [hr] at q3
    simp only [Bool.not_true, if_true]
    rw [Zcr N (by omega) hN]
   | false =>
    rw [hr] at q3
    simp only [Bool.not_false, Bool.false_eq_true, if_false] at q3 ⊢
    rw [if_pos (by omega), if_pos (by rw [Za3]; omega), Zcr N (by omega) hN]
theorem ZiS (u p : List UInt8) (hp : ∀ x ∈ p, x ≠ 47) : ZcQ (u ++ 47 :: p) (u ++ 47 :: p).length = (u.length : Int) := by
 have hat : ∀ j, u.length < j → j < (u ++ 47 :: p).length → at_ (u ++ 47 :: p) j ≠ 47 := by
  intro j hj hl
  rw [ZbE hl, List.getElem_append_right (by omega)]
  have : ∃ m, j - u.length = m + 1 := ⟨j - u.length - 1, by omega⟩
  obtain ⟨m, hm⟩ := this
  simp only [hm, List.getElem_cons_succ]
  exact hp _ (List.getElem_mem _)
 have hu : u.length < (u ++ 47 :: p).length := by simp
 have hmid : at_ (u ++ 47 :: p) u.length = 47 := by
  rw [ZbE hu, List.getElem_append_right (by omega)]; simp
 rcases Zed (u ++ 47 :: p) (u ++ 47 :: p).length with ⟨_, h⟩ | ⟨m, h, hm, h47, hr⟩
 ·exact absurd hmid (h _ hu)
 ·rw [h]
  congr 1
  rcases Nat.lt_trichotomy m u.length with hlt | heq | hgt
  ·exact absurd hmid (hr _ hlt hu)
  ·exact heq
  ·exact absurd h47 (hat m hgt hm)
theorem ZkD (p : List UInt8) (hp : ∀ x ∈ p, x ≠ 47) : ZcQ p p.length = -1 := by
 rcases Zed p p.length with ⟨h, _⟩ | ⟨m, h, hm, h47, hr⟩
 ·exact h
 ·exact absurd h47 (by rw [ZbE hm]; exact hp _ (List.getElem_mem _))
def Ztq (C : List ByteArray) : ByteArray := if C = [] then ByteArray.mk #[] else if ZbI (at_ C (C.length - 1)) then ByteArray.mk #[] else at_ C (C.length - 1)
def Zcv (C : List ByteArray) : Bool := decide (C ≠ []) && !ZbI (at_ C (C.length - 1))
def ZBH (root : Bool) (C : List ByteArray) : ByteArray := Zdi root (C.take (C.length - 1))
theorem Zk5 {w p : ByteArray} (h : ZbQ w = true) (hp : p ∈ cl w) : Zc0 p = true := by
 unfold ZbQ at h
 rw [Bool.and_eq_true, List.all_eq_true] at h
 exact h.1 p (Zg2 hp)
theorem ZhU {w p : ByteArray} (hp : p ∈ cl w) : Zhu p = false := by
 obtain ⟨d, m, hx, hd, hm, _⟩ := (ZvZ (Zbx w) (ZaM w)).ex
 change cl w = d ++ m at hx
 rw [hx] at hp
 rcases List.mem_append.1 hp with h | h
 ·exact ZdO (hd p h)
 ·exact (hm p h).1
theorem Zw9 {w p : ByteArray} (h : ZbQ w = true) (hp : p ∈ cl w) : Zdv p = !ZbI p := by
 unfold Zdv
 rw [Zk5 h hp, ZhU hp]; simp
theorem ZwL {w p : ByteArray} (hr : Zbx w = true) (hp : p ∈ cl w) : ZbI p = false := by
 obtain ⟨d, m, hx, hd, hm, h⟩ := (ZvZ (Zbx w) (ZaM w)).ex
 change cl w = d ++ m at hx
 rw [hx, h hr, List.nil_append] at hp
 exact (hm p hp).2
theorem Zp9 : Zdv (ByteArray.mk #[]) = false := by
 unfold Zdv Zc0 inR
 rw [show decide ((1 : Int) ≤ ((ByteArray.mk #[]).size : Int)) = false from rfl]
 simp
theorem ZvM : Zdv (ByteArray.mk #[46]) = false := by
 unfold Zdv Zhu; simp
theorem Zw6 (u p : List UInt8) : (u ++ 47 :: p).length = u.length + (p.length + 1) := by simp
theorem Zsa (root : Bool) (C : List ByteArray) (p : ByteArray) (hC : ∀ q ∈ C ++ [p], Pt q) :
  ∃ x3 : Int, ZcQ (bl (Zdi root (C ++ [p]))) (bl (Zdi root (C ++ [p]))).length = x3 ∧ -1 ≤ x3 ∧ x3 < ((Zdi root (C ++ [p])).size : Int) ∧
   (bl (Zdi root (C ++ [p]))).drop (x3 + 1).toNat = bl p ∧
   (bl (Zdi root (C ++ [p]))).take (if 0 < x3 then x3 else 0).toNat = if root then ZaS C else (ZaS C).drop 1 := by
 have hp := (hC p (by simp)).2
 cases root with
 | true =>
  have ht : bl (Zdi true (C ++ [p])) = ZaS C ++ 47 :: bl p := by
   show bl (ZbD (C ++ [p])) = _
   rw [ZbS, if_neg (by simp), Zdc, Za6, Zdw, List.append_nil]
  refine ⟨_, rfl, ?_⟩
  rw [ZaA, ht, ZiS _ _ hp]
  refine ⟨by omega, by rw [List.length_append, List.length_cons]; omega, ?_, ?_⟩
  ·rw [show ((ZaS C).length + 1 : Int).toNat = (ZaS C).length + 1 by omega, List.drop_append, List.drop_of_length_le (by omega), show (ZaS C).length + 1 - (ZaS C).length = 1 by omega]
   rfl
  ·have : (if 0 < ((ZaS C).length : Int) then ((ZaS C).length : Int) else 0).toNat = (ZaS C).length := by split <;> omega
   rw [this, List.take_left]; rfl
 | false =>
  have ht : bl (Zdi false (C ++ [p])) = bl (Zoe (C ++ [p])) := by unfold Zdi; simp
  cases C with
  | nil =>
   have ht2 : bl (Zoe ([] ++ [p])) = bl p := by
    rw [List.nil_append, ZgL, Zdw, List.append_nil]
   refine ⟨_, rfl, ?_⟩
   rw [ZaA, ht, ht2, ZkD _ hp]
   refine ⟨by omega, by omega, rfl, rfl⟩
  | cons c C =>
   have ht2 : bl (Zoe ((c :: C) ++ [p])) = (bl c ++ ZaS C) ++ 47 :: bl p := by
    rw [List.cons_append, ZgL, Zdc, Za6, Zdw, List.append_nil, List.append_assoc]
   refine ⟨_, rfl, ?_⟩
   rw [ZaA, ht, ht2, ZiS _ _ hp]
   refine ⟨by omega, by have := Zw6 (bl c ++ ZaS C) (bl p); omega, ?_, ?_⟩
   ·rw [show ((bl c ++ ZaS C).length + 1 : Int).toNat = (bl c ++ ZaS C).length + 1 by omega, List.drop_append, List.drop_of_length_le (by omega), show (bl c ++ ZaS C).length + 1 - (bl c ++ ZaS C).length = 1 by omega]
    rfl
   ·have : (if 0 < ((bl c ++ ZaS C).length : Int) then ((bl c ++ ZaS C).length : Int) else 0).toNat = (bl c ++ ZaS C).length := by split <;> omega
    rw [this, List.take_left, Za6]; rfl
def Zxh (w : ByteArray) : ByteArray := ba (if Zbx w then ZaS ((cl w).take ((cl w).length - 1)) else (ZaS ((cl w).take ((cl w).length - 1))).drop 1)
theorem ZkR {w : ByteArray} (h1 : 0 < w.size) : (ZaK w).size ≤ w.size := by
 have h2 := ZfM (Zbx w) (ZaM w)
 unfold ZaK Zdi
 cases hr : Zbx w with
 | true =>
  have h3 := ZpS hr h1
  simp only [if_true]
  rw [ZaA, ZbS]
  split
  ·exact h1
  ·unfold cl at *; omega
 | false =>
  have h3 := Zec w
  simp only [Bool.false_eq_true, if_false]
  split
  ·exact h1
  ·unfold Zoe
   rw [ZaA, Zf1, List.length_drop]
   unfold cl at *; omega
theorem ZzD {w : ByteArray} (hw : w.size ≤ 1048576) (hN : 1048580 < N) (k : ByteArray → ByteArray → Bool → Option R) (r : Option R)
  (h0 : ZbQ w = false → k (ByteArray.mk #[]) (ByteArray.mk #[]) false = r)
  (h1 : ZbQ w = true → Zcv (cl w) = false → ∀ a b, k a b false = r)
  (h2 : ZbQ w = true → Zcv (cl w) = true → k (Zxh w) (at_ (cl w) ((cl w).length - 1)) true = r) : ZtP N w k = r := by
 rw [Zpw]
 unfold Zkz
 rw [Zdq N hw hN]
 cases hp : ZbQ w with
 | false => exact h0 hp
 | true =>
  have hsz := Zba hp
  have hts := ZkR (w := w) (by omega)
  simp only [Bool.not_true]
  rw [ZiI N (by omega) (by omega) hN, ZmZ N (by omega) hN]
  have fin : ∀ (x3 : Int) (a b : List UInt8), ZcQ (bl (ZaK w)) (bl (ZaK w)).length = x3 → -1 ≤ x3 → x3 < ((ZaK w).size : Int) → (bl (ZaK w)).drop (x3 + 1).toNat = b → (bl (ZaK w)).take (if 0 < x3 then x3 else 0).toNat = a →
    k (ba a) (ba b) (Zdv (ba b)) = r →
    (if (0 : Int) ≤ (if 0 < ZcQ (bl (ZaK w)) (bl (ZaK w)).length then ZcQ (bl (ZaK w)) (bl (ZaK w)).length else 0) ∧ (if 0 < ZcQ (bl (ZaK w)) (bl (ZaK w)).length then ZcQ (bl (ZaK w)) (bl (ZaK w)).length else 0) ≤ ((ZaK w).size : Int) then (if (0 : Int) ≤ IntKind.i64.wrap (ZcQ (bl (ZaK w)) (bl (ZaK w)).length + 1) ∧ IntKind.i64.wrap (ZcQ (bl (ZaK w)) (bl (ZaK w)).length + 1) ≤ ((ZaK w).size : Int) then (if (0 : Int) ≤ IntKind.i64.wrap (ZcQ (bl (ZaK w)) (bl (ZaK w)).length + 1) ∧ IntKind.i64.wrap (ZcQ (bl (ZaK w)) (bl (ZaK w)).length + 1) ≤ ((ZaK w).size : Int) then ZsN N (ByteArray.extract (ZaK w) ((IntKind.i64.wrap (ZcQ (bl (ZaK w)) (bl (ZaK w)).length + 1)).toNat) (ZaK w).size) fun b4 => k (ByteArray.extract (ZaK w) 0 (((if 0 < ZcQ (bl (ZaK w)) (bl (ZaK w)).length then ZcQ (bl (ZaK w)) (bl (ZaK w)).length else 0)).toNat)) (ByteArray.extract (ZaK w) ((IntKind.i64.wrap (ZcQ (bl (ZaK w)) (bl (ZaK w)).length + 1)).toNat) (ZaK w).size) b4 else none) else none) else none) = r := by
   intro x3 a b e1 e2 e3 e4 e5 hk
   rw [e1, Za7 (x := x3 + 1) (by omega) (by omega)]
   have hm : (0 : Int) ≤ (if 0 < x3 then x3 else 0) ∧ (if 0 < x3 then x3 else 0) ≤ ((ZaK w).size : Int) := by split <;> omega
   have hm2 : (0 : Int) ≤ x3 + 1 ∧ x3 + 1 ≤ ((ZaK w).size : Int) := by omega
   have hext : ByteArray.extract (ZaK w) ((x3 + 1).toNat) (ZaK w).size = ba b := by
    rw [ZbJ, ZaA, List.take_length, e4]
   have hext2 : ByteArray.extract (ZaK w) 0 (if 0 < x3 then x3 else 0).toNat = ba a := by
    rw [ZbJ, e5]; rfl
   rw [if_pos hm, if_pos hm2, if_pos hm2, hext, hext2]
   have hbs : (ba b).size ≤ 1048576 := by
    rw [← hext]
    have := ZgB (ZaK w) ((x3 + 1).toNat) (ZaK w).size
    omega
   rw [Zq8 N hbs (by omega)]
   exact hk
  rcases ZfQ (cl w) with hc | ⟨C, p, hc⟩
  ·have hb : Zcv (cl w) = false := by unfold Zcv; rw [hc]; simp
   cases hr : Zbx w with
   | true =>
    have ht : ZaK w = ByteArray.mk #[47] := by unfold ZaK Zdi; rw [hr, hc]; rfl
    refine fin 0 [] [] (by rw [ht]; exact ZiS [] [] (by simp)) (by omega) (by rw [ht]; decide) (by rw [ht]; rfl) (by rw [ht]; rfl) ?_
    rw [show Zdv (ba []) = false from Zp9]
    exact h1 hp hb _ _
   | false =>
    have ht : ZaK w = ByteArray.mk #[46] := by unfold ZaK Zdi; rw [hr, hc]; rfl
    refine fin (-1) [] [46] (by rw [ht]; exact ZkD [46] (by simp)) (by omega) (by rw [ht]; decide) (by rw [ht]; rfl) (by rw [ht]; rfl) ?_
    rw [show Zdv (ba [46]) = false from ZvM]
    exact h1 hp hb _ _
  ·obtain ⟨x3, e1, e2, e3, e4, e5⟩ := Zsa (Zbx w) C p (fun q hq => ZhE (w := w) (by rw [hc]; exact hq))
   have ht : Zdi (Zbx w) (C ++ [p]) = ZaK w := by unfold ZaK; rw [hc]
   rw [ht] at e1 e3 e4 e5
   refine fin x3 _ _ e1 e2 e3 e4 e5 ?_
   have hpm : p ∈ cl w := by rw [hc]; simp
   rw [Zhg, Zw9 hp hpm]
   have hlast : at_ (cl w) ((cl w).length - 1) = p := by rw [hc, Zl1]
   have hne : cl w ≠ [] := by rw [hc]; simp
   have hbase : Zcv (cl w) = !ZbI p := by unfold Zcv; rw [hlast, decide_eq_true hne]; simp
   cases hd : ZbI p with
   | true => exact h1 hp (by rw [hbase, hd]; rfl) _ _
   | false =>
    have hcut : Zxh w = ba (if Zbx w then ZaS C else (ZaS C).drop 1) := by
     have : (cl w).take ((cl w).length - 1) = C := by rw [hc]; simp
     unfold Zxh; rw [this]
    have := h2 hp (by rw [hbase, hd]; rfl)
    rw [hlast, hcut] at this
    exact this
def Zup (w : ByteArray) : ByteArray := if ZbQ w && Zcv (cl w) then Zdi (Zbx w) ((cl w).take ((cl w).length - 1)) else ByteArray.mk #[]
def Zu0 (w : ByteArray) : Bool := ZbQ w && Zcv (cl w)
theorem ZwD {w : ByteArray} (hw : w.size ≤ 1048576) (hN : 1048580 < N) (k : ByteArray → Bool → Option R) : ZuC N w k = k (Zup w) (Zu0 w) := by
 rw [Zpu]
 unfold ZkW Zup Zu0
 refine ZzD N hw hN _ _ (fun h => ?_) (fun h h2 a b => ?_) (fun h h2 => ?_)
 ·rw [h]; rfl
 ·rw [h, h2]; rfl
 ·have hsz := Zba h
  rw [h, h2, ZbM]
  simp only [Bool.not_true, Bool.and_self, if_true]
  rw [ZtQ (by omega)]
  show (match !decide (Zxh w = ByteArray.mk #[]) with
   | true => k (Zxh w) true
   | false => match Zbx w with
    | true => _
    | false => _) = _
  unfold Zxh Zdi
  have hpt : ∀ q ∈ (cl w).take ((cl w).length - 1), Pt q := fun q hq => ZhE (List.mem_of_mem_take hq)
  generalize (cl w).take ((cl w).length - 1) = C at hpt
  cases C with
  | nil =>
   have e : ∀ b : Bool, ba (if b then ZaS [] else (ZaS []).drop 1) = ByteArray.mk #[] := fun b => by cases b <;> rfl
   rw [e, decide_eq_true rfl]
   cases Zbx w <;> rfl
  | cons c C =>
   have hcp : ∀ b : Bool, ba (if b then ZaS (c :: C) else (ZaS (c :: C)).drop 1) = if b then ZbD (c :: C) else Zoe (c :: C) := fun b => by
    cases b
    ·rfl
    ·show ba (ZaS (c :: C)) = ZbD (c :: C)
     unfold ZbD; rw [if_neg (by simp)]; rfl
   have hne : ba (if Zbx w then ZaS (c :: C) else (ZaS (c :: C)).drop 1) ≠ ByteArray.mk #[] := by
    intro h
    have h3 : (if Zbx w then ZaS (c :: C) else (ZaS (c :: C)).drop 1) = [] := by
     have := congrArg bl h
     rw [Zf1] at this
     exact this
    have h4 := (hpt c (by simp)).1
    rw [ZaA] at h4
    rw [Za6] at h3
    cases hr : Zbx w with
    | true => rw [hr] at h3; simp at h3
    | false =>
     rw [hr] at h3
     simp only [Bool.false_eq_true, if_false, List.drop_succ_cons, List.drop_zero] at h3
     rw [(List.append_eq_nil_iff.1 h3).1] at h4
     exact h4 rfl
   rw [decide_eq_false hne, hcp]
   cases Zbx w <;> rfl
end
end Go.VM.VL
set_option linter.unusedSimpArgs false
set_option linter.unusedVariables false
namespace Go.VM.VL
open Go
section
variable {R : Type} (N : Nat)
theorem Zwu {w : ByteArray} (h : cl w ≠ []) : at_ (cl w) ((cl w).length - 1) ∈ cl w := Zhj (by
 have : (cl w).length ≠ 0 := fun h2 => h (List.eq_nil_of_length_eq_zero h2)
 omega)
theorem ZpX (w : ByteArray) : ZbH (Ztq (cl w)) = !Zcv (cl w) := by
 unfold Ztq Zcv
 by_cases h : cl w = []
 ·rw [if_pos h, decide_eq_false (by simpa using h)]; rw [Zcq]; rfl
 ·rw [if_neg h, decide_eq_true h]
  cases hd : ZbI (at_ (cl w) ((cl w).length - 1)) with
  | true => simp only [if_true]; rw [Zcq]; rfl
  | false => simp only [Bool.false_eq_true, if_false]; rw [Zpf (ZhE (Zwu h))]; rfl
theorem ZsT {w : ByteArray} (h1 : 0 < w.size) (h2 : w.size ≤ 60) (hN : 1048580 < N) (k : ByteArray → Option R) : Zvc N w k = k (Ztq (cl w)) := by
 rw [ZoM]
 unfold Zlg
 rw [Zc8 N (by omega) h1 hN]
 rw [show ZbU ((((at_ (bl w) 0).toNat : Nat) : Int) == 47) (ZaM w) = cl w from rfl]
 have hl := ZhQ h2
 rw [ZaZ]
 unfold Ztq
 by_cases h : cl w = []
 ·rw [h, if_pos rfl]; rfl
 ·have hlen : (cl w).length ≠ 0 := fun h2 => h (List.eq_nil_of_length_eq_zero h2)
  rw [if_neg h, show (((cl w).length : Int) == 0) = false from beq_false_of_ne (by omega)]
  have hwr : IntKind.i64.wrap (((cl w).length : Int) - 1) = ((cl w).length - 1 : Nat) := by rw [Za7 (by omega) (by omega)]; omega
  simp only [hwr, Int.toNat_natCast, ZbA (show (cl w).length - 1 < (cl w).length by omega), Zae, ZbT]
  rw [if_pos (by omega), if_pos (by omega)]
  show (match ZbI (at_ (cl w) ((cl w).length - 1)) with
   | true => _
   | false => _) = _
  cases ZbI (at_ (cl w) ((cl w).length - 1)) <;> rfl
theorem Zwy {w : ByteArray} (h1 : 0 < w.size) (h2 : w.size ≤ 60) (hN : 1048580 < N) (hne : cl w ≠ []) (k : ByteArray → Option R) :
  Zvg N w k = k (Zdi (Zbx w) ((cl w).take ((cl w).length - 1))) := by
 rw [Zpc]
 unfold ZkA
 rw [Zc8 N (by omega) h1 hN]
 have hl := ZhQ h2
 have hlen : (cl w).length ≠ 0 := fun h2 => hne (List.eq_nil_of_length_eq_zero h2)
 have hwr : IntKind.i64.wrap (((cl w).length : Int) - 1) = ((cl w).length - 1 : Nat) := by rw [Za7 (by omega) (by omega)]; omega
 rw [show ZbU ((((at_ (bl w) 0).toNat : Nat) : Int) == 47) (ZaM w) = cl w from rfl, ZaZ, hwr, if_pos (by omega), Int.toNat_natCast, List.drop_zero, ← Ze7]
 rw [ZoB N (by rw [List.length_take]; omega) (fun p hp => by have := ZiD (List.mem_of_mem_take hp); omega) hN, ZtQ h1]
 show (match Zbx w with
  | true => _
  | false => _) = _
 unfold Zdi
 cases hr : Zbx w with
 | true => rfl
 | false =>
  simp only [Bool.false_eq_true, if_false]
  by_cases h : (cl w).length = 1
  ·rw [show (((cl w).length : Int) == 1) = true by rw [h]; rfl, h, show (cl w).take (1 - 1) = [] from rfl, if_pos rfl]
  ·rw [show (((cl w).length : Int) == 1) = false from beq_false_of_ne (by omega)]
   have hc : (cl w).take ((cl w).length - 1) ≠ [] := by
    intro hc
    have := congrArg List.length hc
    rw [List.length_take, List.length_nil] at this
    omega
   have := Zit ((cl w).take ((cl w).length - 1))
   simp only
   rw [if_pos (by omega), Zm4, ZbS, if_neg hc, if_neg hc]
   rfl
theorem Zww {C : List ByteArray} (h : Zcv C = true) : C ≠ [] := by
 unfold Zcv at h
 rw [Bool.and_eq_true, decide_eq_true_iff] at h
 exact h.1
theorem ZAx {w : ByteArray} (hw : w.size ≤ 1048576) (hN : 1048580 < N) (k : ByteArray → Bool → Option R) : Zu6 N w k = k (Zup w) (Zu0 w) := by
 rw [ZoP]
 unfold Zjp Zup Zu0
 rw [Ze8 N hw hN]
 cases hp : ZbQ w with
 | false => rfl
 | true =>
  have hsz := Zba hp
  simp only [Bool.not_true, Bool.true_and]
  rw [ZsT N (by omega) (by omega) hN]
  show (match ZbH (Ztq (cl w)) with
   | true => _
   | false => _) = _
  rw [ZpX]
  cases hb : Zcv (cl w) with
  | false => rfl
  | true =>
   simp only [Bool.not_true, if_true]
   rw [Zwy N (by omega) (by omega) hN (Zww hb)]
end
end Go.VM.VL
set_option linter.unusedSimpArgs false
set_option linter.unusedVariables false
namespace Go.VM.VL
open Go
section
open Go
variable {R : Type} (N : Nat)
theorem ZfD {w : ByteArray} (hw : w.size ≤ 1048576) (hN : 1048580 < N) (k : Bool → Option R) : Zng N w k = k (Zbo w) := by
 rw [ZnD]
 unfold ZkH Zbo
 rw [Ze8 N hw hN]
 cases h : ZbQ w with
 | false => rfl
 | true =>
  have := Zba h
  simp only
  rw [show (0 : Int) = ((0 : Nat) : Int) from rfl, Zbu w (by rw [← ZaA]; omega)]
  rfl
end
section
open Go
variable {R : Type} (N : Nat)
theorem Zfm {w : ByteArray} (hw : w.size ≤ 1048576) (hN : 1048580 < N) (k : Bool → Option R) : ZlQ N w k = k (Zbo w) := by
 rw [ZnV]
 unfold Zjw Zbo
 rw [Zdq N hw hN]
 cases h : ZbQ w with
 | false => rfl
 | true =>
  have := Zba h
  simp only
  rw [show (0 : Int) = ((0 : Nat) : Int) from rfl, Zbu w (by rw [← ZaA]; omega)]
  rfl
end
section
variable {R : Type} (N : Nat)
def ZyM (w p : ByteArray) : Bool := decide ((w.size : Int) ≥ (p.size : Int)) && ((ByteArray.extract w 0 p.size).toList == p.toList)
theorem Zvq {w p : ByteArray} : ZyM w p = true ↔ bl p <+: bl w := by
 unfold ZyM
 rw [ZbM, Bool.and_eq_true, decide_eq_true_iff, decide_eq_true_iff, ZbJ, ZaA, ZaA, List.drop_zero]
 constructor
 ·rintro ⟨h1, h2⟩
  refine ⟨(bl w).drop (bl p).length, ?_⟩
  have : bl p = (bl w).take (bl p).length := by
   have := congrArg bl h2
   rw [Zf1] at this
   exact this.symm
  conv => lhs; lhs; rw [this]
  rw [List.take_append_drop]
 ·rintro ⟨t, ht⟩
  rw [← ht, List.length_append, List.take_left]
  exact ⟨by omega, rfl⟩
theorem Znn (w p : ByteArray) (k : ByteArray → Bool → Option R) : ZpZ N w p k = if ZyM w p then k (ba ((bl w).drop p.size)) true else k w false := by
 rw [ZoU]
 unfold Zjy
 rw [ZnY]
 unfold ZkY
 rw [Zn0]
 unfold Zjo ZyM
 by_cases h : (w.size : Int) ≥ (p.size : Int)
 ·rw [decide_eq_true h]
  simp only [Int.toNat_natCast, Bool.true_and]
  rw [if_pos (by omega)]
  cases (ByteArray.extract w 0 p.size).toList == p.toList with
  | false => rfl
  | true =>
   simp only [Bool.not_true, if_true]
   rw [if_pos (by omega), ZbJ, ZaA w, List.take_length]
 ·rw [decide_eq_false h]; rfl
theorem Zrm : ∀ (x y s r : List UInt8), (∀ b ∈ x, b ≠ 47) → (∀ b ∈ y, b ≠ 47) → (r = [] ∨ ∃ r', r = 47 :: r') → ((x ++ 47 :: s) <+: (y ++ r) ↔ x = y ∧ (47 :: s) <+: r)
 | [], [], s, r, _, _, _ => by simp
 | [], b :: y, s, r, _, hy, _ => by
  constructor
  ·rintro ⟨t, ht⟩
   injection ht with h1 h2
   exact absurd h1.symm (hy b (by simp))
  ·rintro ⟨h, _⟩; cases h
 | a :: x, [], s, r, hx, _, hr => by
  constructor
  ·rintro ⟨t, ht⟩
   rcases hr with rfl | ⟨r', rfl⟩
   ·cases ht
   ·injection ht with h1 h2
    exact absurd h1 (hx a (by simp))
  ·rintro ⟨h, _⟩; cases h
 | a :: x, b :: y, s, r, hx, hy, hr => by
  have ih := Zrm x y s r (fun c hc => hx c (by simp [hc])) (fun c hc => hy c (by simp [hc])) hr
  rw [List.cons_append, List.cons_append, List.cons_prefix_cons, ih, List.cons.injEq, and_assoc]
theorem ZyS {a b : ByteArray} : bl a = bl b ↔ a = b := ⟨fun h => by rw [← Zhg a, ← Zhg b, h], fun h => by rw [h]⟩
theorem Zli (B : List ByteArray) : ZaS B = [] ∨ ∃ r', ZaS B = 47 :: r' := by
 cases B with
 | nil => exact .inl rfl
 | cons b B => exact .inr ⟨_, Za6 b B⟩
theorem ZoT : ∀ (A B : List ByteArray), (∀ p ∈ A, Pt p) → (∀ p ∈ B, Pt p) → ((ZaS A ++ [47]) <+: ZaS B ↔ A <+: B ∧ A ≠ B)
 | [], [], _, _ => by simp [ZaS]
 | [], b :: B, _, _ => by
  rw [Za6, Zdw, List.nil_append]
  constructor
  ·intro _; exact ⟨List.nil_prefix, by simp⟩
  ·intro _; exact ⟨bl b ++ ZaS B, rfl⟩
 | a :: A, [], _, _ => by
  rw [Za6, Zdw]
  constructor
  ·rintro ⟨t, ht⟩; cases ht
  ·rintro ⟨⟨t, ht⟩, _⟩; cases ht
 | a :: A, b :: B, ha, hb => by
  have ih := ZoT A B (fun c hc => ha c (by simp [hc])) (fun c hc => hb c (by simp [hc]))
  rw [Za6, Za6, List.cons_append, List.cons_prefix_cons, List.append_assoc]
  obtain ⟨s, hs⟩ : ∃ s, ZaS A ++ [47] = 47 :: s := by
   rcases Zli A with h | ⟨r, h⟩
   ·rw [h]; exact ⟨[], rfl⟩
   ·rw [h]; exact ⟨r ++ [47], rfl⟩
  rw [hs, Zrm _ _ _ _ (ha a (by simp)).2 (hb b (by simp)).2 (Zli B), ← hs, ih, ZyS, List.cons_prefix_cons]
  constructor
  ·rintro ⟨_, h1, h2, h3⟩
   exact ⟨⟨h1, h2⟩, fun h => h3 (by injection h)⟩
  ·rintro ⟨⟨h1, h2⟩, h3⟩
   exact ⟨rfl, h1, h2, fun h => h3 (by rw [h1, h])⟩
def wi (A B : List ByteArray) : Bool := decide (A <+: B)
def Zcd (A B : List ByteArray) : ByteArray := if B.drop A.length = [] then ByteArray.mk #[46] else Zoe (B.drop A.length)
def inB (a b : ByteArray) : Bool := Zbo a && Zbo b && wi (cl a) (cl b)
def Zkb (a b : ByteArray) : ByteArray := if inB a b then Zcd (cl a) (cl b) else ByteArray.mk #[]
theorem Zdx {w : ByteArray} (h : Zbo w = true) : ZbQ w = true ∧ Zbx w = true := by
 unfold Zbo at h
 rw [Bool.and_eq_true] at h
 exact h
theorem Zcw {w : ByteArray} (h : Zbx w = true) : ZaK w = ZbD (cl w) := by
 unfold ZaK Zdi; rw [h]; rfl
theorem Zig {A B : List ByteArray} (hA : ∀ p ∈ A, Pt p) (hB : ∀ p ∈ B, Pt p) (hne : A ≠ B) {p : ByteArray} (hp : bl p = ZaS A ++ [47]) : ZyM (ZbD B) p = wi A B := by
 rw [Bool.eq_iff_iff, Zvq, hp, ZbS]
 unfold wi
 rw [decide_eq_true_iff]
 by_cases h0 : B = []
 ·subst h0
  rw [if_pos rfl]
  cases A with
  | nil => exact absurd rfl hne
  | cons a A =>
   rw [Za6]
   constructor
   ·rintro ⟨t, ht⟩
    have := congrArg List.length ht
    simp at this
   ·rintro ⟨t, ht⟩; cases ht
 ·rw [if_neg h0, ZoT A B hA hB]
  exact ⟨fun h => h.1, fun h => ⟨h, hne⟩⟩
theorem Zri {A B : List ByteArray} (h : A <+: B) (hne : A ≠ B) {p : ByteArray} (hp : bl p = ZaS A ++ [47]) : ba ((bl (ZbD B)).drop p.size) = Zcd A B := by
 obtain ⟨C, rfl⟩ := h
 have hC : C ≠ [] := fun h => hne (by rw [h, List.append_nil])
 have hAC : A ++ C ≠ [] := by simp [hC]
 unfold Zcd
 rw [List.drop_left, if_neg hC, ZbS, if_neg hAC, ZaA, hp, Zdc, List.length_append, List.drop_append, List.drop_of_length_le (by omega), List.nil_append, List.length_singleton, Nat.add_sub_cancel_left]
 rfl
theorem Zyk {a b : ByteArray} (ha : a.size ≤ 1048576) (hb : b.size ≤ 1048576) (hN : 1048580 < N) (k : ByteArray → Bool → Option R) : Zsc N a b k = k (Zkb a b) (inB a b) := by
 rw [Zod]
 unfold Zjl Zkb inB
 rw [Zfm N ha hN]
 cases hwa : Zbo a with
 | false => rfl
 | true =>
  simp only [Bool.not_true, Bool.true_and]
  rw [Zfm N hb hN]
  cases hwb : Zbo b with
  | false => rfl
  | true =>
   simp only [Bool.not_true, Bool.true_and]
   obtain ⟨pa, ra⟩ := Zdx hwa
   obtain ⟨pb, rb⟩ := Zdx hwb
   have sa := Zba pa
   have sb := Zba pb
   have hts := ZkR (w := a) (by omega)
   rw [ZiI N (by omega) (by omega) hN, ZiI N (by omega) (by omega) hN]
   rw [ZbM, ZbM, Zcw ra, Zcw rb]
   rw [Zcw ra] at hts
   have hA : ∀ p ∈ cl a, Pt p := fun p hp => ZhE hp
   have hB : ∀ p ∈ cl b, Pt p := fun p hp => ZhE hp
   generalize cl a = A at *
   generalize cl b = B at *
   by_cases hAB : A = B
   ·subst hAB
    have hw : wi A A = true := decide_eq_true (List.prefix_refl A)
    rw [decide_eq_true rfl, hw]
    unfold Zcd
    rw [List.drop_length, if_pos rfl]; rfl
   ·rw [decide_eq_false (fun h => hAB (Zix hA hB h))]
    have fin : ∀ p : ByteArray, bl p = ZaS A ++ [47] → ZpZ N (ZbD B) p (fun w5 b6 => (match (!b6) with
      | true => k (ByteArray.mk #[]) false
      | false => k w5 true)) = k (if wi A B = true then Zcd A B else ByteArray.mk #[]) (wi A B) := by
     intro p hp
     rw [Znn, Zig hA hB hAB hp]
     cases hwi : wi A B with
     | false => rfl
     | true =>
      rw [Zri (of_decide_eq_true hwi) hAB hp]; rfl
    have h1 : (ByteArray.mk #[47]).size = 1 := rfl
    by_cases hA0 : A = []
    ·subst hA0
     rw [show ZbD [] = ByteArray.mk #[47] from rfl, decide_eq_true rfl]
     exact fin _ rfl
    ·have hn47 : ZbD A ≠ ByteArray.mk #[47] := fun h => hA0 (Zix hA (by simp) (h.trans (show _ = ZbD [] from rfl)))
     rw [decide_eq_false hn47]
     simp only [Bool.not_false]
     rw [if_pos (by omega)]
     refine fin _ ?_
     rw [Zf9, ZbS, if_neg hA0]
theorem Zve {a b : ByteArray} (ha : a.size ≤ 1048576) (hb : b.size ≤ 1048576) (hN : 1048580 < N) (k : Bool → Bool → Option R) : Zm9 N a b k = k (inB a b) (Zbo a && Zbo b) := by
 rw [ZnF]
 unfold Zkn
 rw [Zfm N ha hN]
 cases hwa : Zbo a with
 | false => unfold inB; rw [hwa]; rfl
 | true =>
  simp only [Bool.not_true, Bool.true_and]
  rw [Zfm N hb hN]
  cases hwb : Zbo b with
  | false => unfold inB; rw [hwa, hwb]; rfl
  | true =>
   simp only [Bool.not_true]
   rw [Zyk N ha hb hN]
theorem ZpK {A B : List ByteArray} (h : A.length ≤ B.length) : ((List.range' 0 A.length).all fun i => decide (at_ A i = at_ B i)) = wi A B := by
 rw [Bool.eq_iff_iff, ZdN]
 unfold wi
 rw [decide_eq_true_iff]
 constructor
 ·intro h2
  rw [List.prefix_iff_eq_take]
  apply List.ext_getElem
  ·rw [List.length_take]; omega
  ·intro i h3 h4
   have := of_decide_eq_true (h2 i h3)
   rw [ZbE h3, ZbE (by omega)] at this
   rw [List.getElem_take, this]
 ·rintro ⟨t, rfl⟩ i hi
  apply decide_eq_true
  rw [ZbE hi, ZbE (by rw [List.length_append]; omega), List.getElem_append_left hi]
theorem ZhY {a b : ByteArray} (ha : 0 < a.size ∧ a.size ≤ 60) (hb : 0 < b.size ∧ b.size ≤ 60) (hN : 1048580 < N) (k : Bool → Option R) : Ztz N a b k = k (wi (cl a) (cl b)) := by
 rw [Zou]
 unfold ZkF
 rw [Zc8 N (by omega) ha.1 hN, Zc8 N (by omega) hb.1 hN]
 rw [show ZbU ((((at_ (bl a) 0).toNat : Nat) : Int) == 47) (ZaM a) = cl a from rfl, show ZbU ((((at_ (bl b) 0).toNat : Nat) : Int) == 47) (ZaM b) = cl b from rfl, ZaZ, ZaZ]
 have hla := ZhQ ha.2
 by_cases h : (cl a).length ≤ (cl b).length
 ·rw [decide_eq_false (by omega)]
  have := Zjb (l := fun n i => Zg4 N (ZaD (cl b)) (ZaD (cl a)) ((cl a).length : Int) (fun (_ : Unit) => k false) (fun (_ : Unit) => k true) n (i : Int)) (len := (cl a).length) (p := fun i => decide (at_ (cl a) i = at_ (cl b) i)) (k0 := k false) (k1 := k true)
   (fun n i hi _ => by
    show Zb6 N (ZaD (cl b)) (ZaD (cl a)) ((cl a).length : Int) _ (i : Int) _ _ = _
    unfold Zb6
    simp only [Zcs hi, Int.natCast_nonneg, if_true, Int.toNat_natCast, ZbA hi, ZbA (show i < (cl b).length by omega), Zae, ZbT, ZbM, Zbg (i := i) (by omega)]
    by_cases he : at_ (cl a) i = at_ (cl b) i
    ·rw [decide_eq_true he]; rfl
    ·rw [decide_eq_false he]; rfl)
   (fun _ n => by
    show Zb6 N (ZaD (cl b)) (ZaD (cl a)) ((cl a).length : Int) _ ((cl a).length : Int) _ _ = _
    unfold Zb6
    rw [decide_eq_false (by omega)])
   (N := N) (by omega)
  rw [ZpK h] at this
  refine this.trans ?_
  cases wi (cl a) (cl b) <;> rfl
 ·rw [decide_eq_true (by omega)]
  have : wi (cl a) (cl b) = false := by
   apply decide_eq_false
   intro hp
   exact h hp.length_le
  rw [this]
theorem ZAy {a b : ByteArray} (ha : a.size ≤ 1048576) (hb : b.size ≤ 1048576) (hN : 1048580 < N) (k : Bool → Bool → Option R) : ZuP N a b k = k (inB a b) (Zbo a && Zbo b) := by
 rw [Zn4]
 unfold ZjF inB
 rw [ZfD N ha hN]
 cases hwa : Zbo a with
 | false => rfl
 | true =>
  simp only [Bool.not_true, Bool.true_and]
  rw [ZfD N hb hN]
  cases hwb : Zbo b with
  | false => rfl
  | true =>
   have sa := Zba (Zdx hwa).1
   have sb := Zba (Zdx hwb).1
   simp only [Bool.not_true, Bool.true_and]
   rw [ZhY N ⟨by omega, by omega⟩ ⟨by omega, by omega⟩ hN]
theorem ZAs {a b : ByteArray} (ha : a.size ≤ 1048576) (hb : b.size ≤ 1048576) (hN : 1048580 < N) (k : ByteArray → Bool → Option R) : ZvJ N a b k = k (Zkb a b) (inB a b) := by
 rw [Zpi]
 unfold ZkX Zkb inB
 rw [ZfD N ha hN]
 cases hwa : Zbo a with
 | false => rfl
 | true =>
  simp only [Bool.not_true, Bool.true_and]
  rw [ZfD N hb hN]
  cases hwb : Zbo b with
  | false => rfl
  | true =>
   have sa := Zba (Zdx hwa).1
   have sb := Zba (Zdx hwb).1
   simp only [Bool.not_true, Bool.true_and]
   rw [ZhY N ⟨by omega, by omega⟩ ⟨by omega, by omega⟩ hN]
   cases hwi : wi (cl a) (cl b) with
   | false => rfl
   | true =>
    have hpre := of_decide_eq_true hwi
    have hle := hpre.length_le
    have hlb := ZhQ sb.2
    simp only [Bool.not_true, if_true]
    rw [Zc8 N (by omega) (by omega) hN, Zc8 N (by omega) (by omega) hN]
    rw [show ZbU ((((at_ (bl a) 0).toNat : Nat) : Int) == 47) (ZaM a) = cl a from rfl, show ZbU ((((at_ (bl b) 0).toNat : Nat) : Int) == 47) (ZaM b) = cl b from rfl, ZaZ, ZaZ]
    rw [if_pos (by omega), Int.toNat_natCast]
    have hd : ((ZaD (cl b)).take (cl b).length).drop (cl a).length = ZaD ((cl b).drop (cl a).length) := by
     rw [← Ze7, List.take_length]
     simp [ZaD, List.map_drop]
    rw [hd, ZaZ]
    have hsz : ∀ p ∈ (cl b).drop (cl a).length, p.size ≤ 1048576 := fun p hp => by have := ZiD (List.mem_of_mem_drop hp); omega
    have hln : ((cl b).drop (cl a).length).length ≤ 30 := by rw [List.length_drop]; omega
    unfold Zcd
    generalize (cl b).drop (cl a).length = C at *
    by_cases hC : C = []
    ·subst hC; rfl
    ·have : C.length ≠ 0 := fun h => hC (List.eq_nil_of_length_eq_zero h)
     rw [show ((C.length : Int) == 0) = false from beq_false_of_ne (by omega), if_neg hC]
     simp only
     rw [ZoB N (by omega) hsz hN]
     have := Zit C
     rw [if_pos (by omega), Zm4, ZbS, if_neg hC]
     rfl
theorem Zyu {a s : ByteArray} (ha : a.size ≤ 1048576) (hs : s.size ≤ 1048576) (hN : 1048580 < N) (k : ByteArray → Bool → Option R) :
  Zu7 N a s k = if ZbQ a && ZbQ s then k (Zdm (ZfI a s)) (ZbQ (ZfI a s)) else k (ByteArray.mk #[]) false := by
 rw [Zn9]
 unfold Zk7
 rw [Ze8 N ha hN]
 cases hpa : ZbQ a with
 | false => rfl
 | true =>
  simp only [Bool.not_true, Bool.true_and]
  rw [Ze8 N hs hN]
  cases hps : ZbQ s with
  | false => rfl
  | true =>
   have q1 := Zba hpa
   have q2 := Zba hps
   have q3 := Zld q1.2 q2.2
   have h1 : (ByteArray.mk #[47]).size = 1 := rfl
   simp only [Bool.not_true, if_true]
   rw [ZtQ (by omega), Zx9]
   unfold ZfI at *
   cases hr : Zbx s with
   | true =>
    rw [hr] at q3
    simp only [Bool.not_true, if_true]
    rw [Zy8 N (by omega) hN]
   | false =>
    rw [hr] at q3
    simp only [Bool.not_false, Bool.false_eq_true, if_false] at q3 ⊢
    rw [if_pos (by omega), if_pos (by rw [Za3]; omega), Zy8 N (by omega) hN]
theorem Zkg {e : List V} (he : Zcb e) (f : Fl) (hN : 100 < N) : ∃ a b, a.size ≤ 200 ∧ b.size ≤ 200 ∧ ∀ (R : Type) (k : ByteArray → ByteArray → Option R), ZsY N e f k = k a b := by
 obtain ⟨w, a1, s1, p1, p2, p3, p4⟩ := Zlh N he f.noOwn.noOwn.noOwn.noOwn hN 0 (at0 := 0) (by omega) (by unfold Zbp; omega)
 obtain ⟨b, a2, s2, q1, q2, q3⟩ := ZyE N he f.noOwn.noOwn.noOwn.noOwn s1 2 (at_ := a1) (by omega) (by unfold Zbp; omega)
 obtain ⟨v, a3, s3, r1, r2, r3, r4⟩ := Zlh N he f.noOwn.noOwn.noOwn.noOwn hN s2 (at0 := a2) (by omega) (by unfold Zbp; omega)
 have h1 : (ByteArray.mk #[47]).size = 1 := rfl
 have go : ∀ (R : Type) (k : ByteArray → ByteArray → Option R), ZsY N e f k = match b with
   | true => k ((ByteArray.mk #[47]) ++ w) ((((ByteArray.mk #[47]) ++ w) ++ (ByteArray.mk #[47])) ++ v)
   | false => k ((ByteArray.mk #[47]) ++ w) ((ByteArray.mk #[47]) ++ v) := fun R k => by
  rw [Zol]
  unfold Zk4
  rw [ZnZ]
  unfold ZkV
  refine (p4 R _).trans ?_
  rw [if_pos (by omega)]
  refine (q3 R _).trans ?_
  cases b with
  | true =>
   refine (if_pos (by rw [Za3]; omega)).trans ((r4 R _).trans ?_)
   rw [if_pos (by rw [Za3, Za3]; omega)]
  | false =>
   refine (r4 R _).trans ?_
   rw [if_pos (by omega)]
 cases b with
 | true => exact ⟨_, _, by rw [Za3]; omega, by rw [Za3, Za3, Za3]; omega, go⟩
 | false => exact ⟨_, _, by rw [Za3]; omega, by rw [Za3]; omega, go⟩
theorem Zhw {e : List V} (he : Zcb e) (f : Fl) (hN : 100 < N) : ∃ a b, a.size ≤ 200 ∧ b.size ≤ 200 ∧ ∀ (R : Type) (k : ByteArray → ByteArray → Option R), Zt6 N e f k = k a b := by
 obtain ⟨w, a1, s1, p1, p2, p3, p4⟩ := Zlh N he f.noOwn.noOwn hN 0 (at0 := 0) (by omega) (by unfold Zbp; omega)
 obtain ⟨v, a3, s3, r1, r2, r3, r4⟩ := Zlh N he f.noOwn.noOwn hN s1 (at0 := a1) (by omega) (by unfold Zbp; omega)
 refine ⟨w, v, by omega, by omega, fun R k => ?_⟩
 rw [ZnQ]
 unfold ZkC
 exact (p4 R _).trans (r4 R _)
theorem ZlR {e : List V} (he : Zcb e) (f : Fl) (hN : 100 < N) : ∃ w, w.size ≤ 60 ∧ ∀ (R : Type) (k : ByteArray → Option R), Zul N e f k = k w := by
 obtain ⟨w, p1, p2⟩ := ZhC N he f.noOwn.noOwn hN
 refine ⟨w, p1, fun R k => ?_⟩
 rw [Zow]
 unfold Zj0
 exact p2 R _
end
end Go.VM.VL
set_option linter.unusedSimpArgs false
set_option linter.unusedVariables false
namespace Go.VM.VL
open Go
section
variable (N : Nat)
theorem Zd5 {w : ByteArray} (h : Zbo w = true) : 0 < w.size ∧ w.size ≤ 60 ∧ ZbQ w = true ∧ Zbx w = true ∧ Zdm w = ZbD (cl w) := by
 obtain ⟨h1, h2⟩ := Zdx h
 have h3 := Zba h1
 refine ⟨by omega, h3.2, h1, h2, ?_⟩
 unfold Zdm
 rw [h1, Zcw h2]; rfl
theorem Zoh {a b : ByteArray} (h : inB a b = true) : Zbo a = true ∧ Zbo b = true ∧ cl a <+: cl b := by
 unfold inB at h
 rw [Bool.and_eq_true, Bool.and_eq_true] at h
 exact ⟨h.1.1, h.1.2, of_decide_eq_true h.2⟩
theorem Zry {A : List ByteArray} {b : ByteArray} (hb : b.size ≤ 60) : (Zcd A (cl b)).size ≤ 61 := by
 unfold Zcd
 split
 ·decide
 ·have h1 := ZfM (Zbx b) (ZaM b)
  have h2 := Zec b
  have h3 : (ZaS ((cl b).drop A.length)).length ≤ (ZaS (cl b)).length := by
   conv => rhs; rw [← List.take_append_drop A.length (cl b), Zdc, List.length_append]
   omega
  unfold Zoe
  rw [ZaA, Zf1, List.length_drop]
  unfold cl at *
  omega
theorem Zu3 {A : List ByteArray} {b : ByteArray} : Zbx (Zcd A (cl b)) = false := by
 unfold Zcd
 split
 ·rfl
 ·rename_i hne
  cases hC : (cl b).drop A.length with
  | nil => exact absurd hC hne
  | cons c C =>
   have hc : Pt c := ZhE (w := b) (List.mem_of_mem_drop (by rw [hC]; simp))
   cases h : Zbx (Zoe (c :: C)) with
   | false => rfl
   | true =>
    have h2 := Zi7.1 h
    rw [ZgL] at h2
    cases hb : bl c with
    | nil => exact absurd (by rw [ZaA, hb]; rfl) hc.1
    | cons x xs =>
     rw [hb] at h2
     exact absurd h2 (hc.2 x (by rw [hb]; simp))
theorem ZpP (a r : ByteArray) : ZaM ((a ++ ByteArray.mk #[47]) ++ r) = ZaM a ++ ZaM r := by
 unfold ZaM Za0
 rw [Zf9, Zf9, List.append_assoc, show bl (ByteArray.mk #[47]) ++ bl r = 47 :: bl r from rfl, Zg1, List.map_append, List.filter_append]
theorem Zr0 {a : ByteArray} (h : Zbx a = true) (h0 : 0 < a.size) (r : ByteArray) : Zbx ((a ++ ByteArray.mk #[47]) ++ r) = true := by
 obtain ⟨l, hl⟩ := Zkc h h0
 rw [Zi7, Zf9, Zf9, hl]; rfl
theorem ZsP : ZaM (ByteArray.mk #[46]) = [ByteArray.mk #[46]] := by
 unfold ZaM Za0
 show List.filter (fun p => !ZbH p) [ba [46]] = _
 have : ZbH (ba [46]) = false := by rw [Zcq]; rfl
 simp [List.filter, this]; rfl
theorem Ztb {a b : ByteArray} (ha : Zbo a = true) (hb : Zbo b = true) (h : cl a <+: cl b) : ZaK (ZfI a (Zcd (cl a) (cl b))) = ZaK b := by
 obtain ⟨a1, a2, a3, a4, a5⟩ := Zd5 ha
 obtain ⟨b1, b2, b3, b4, b5⟩ := Zd5 hb
 have hj : ZfI a (Zcd (cl a) (cl b)) = (a ++ ByteArray.mk #[47]) ++ Zcd (cl a) (cl b) := by
  unfold ZfI; rw [Zu3]; rfl
 have hr := Zr0 a4 a1 (Zcd (cl a) (cl b))
 rw [hj, Zcw hr, Zcw b4]
 congr 1
 obtain ⟨C, hC⟩ := h
 show ZbU (Zbx ((a ++ ByteArray.mk #[47]) ++ Zcd (cl a) (cl b))) (ZaM ((a ++ ByteArray.mk #[47]) ++ Zcd (cl a) (cl b))) = _
 rw [hr, ZpP]
 unfold ZbU
 rw [List.foldl_append, show (ZaM a).foldl (Zbb true) [] = cl a by unfold cl ZbU; rw [a4]]
 have hd : (cl b).drop (cl a).length = C := by rw [← hC, List.drop_left]
 unfold Zcd
 rw [hd]
 split
 ·rename_i h0
  rw [ZsP, ← hC, h0, List.append_nil]
  show Zbb true (cl a) (ByteArray.mk #[46]) = cl a
  unfold Zbb
  rw [show Zhu (ByteArray.mk #[46]) = true from by decide +kernel]
  rfl
 ·rename_i h0
  have hm : ∀ p ∈ C, p ∈ cl b := fun p hp => by rw [← hC]; simp [hp]
  rw [ZrT h0 fun p hp => ZhE (hm p hp), Zf2 C fun p hp => ⟨ZhU (hm p hp), ZwL b4 (hm p hp)⟩, hC]
theorem ZBF {R : Type} {e1 : List V} {f2 : Fl} {e3 : List V} {f4 : Fl} (v_1009 v_1010 v_1013 v_1014 v_1042 v_1043 v_1045 v_1046 v_1047 v_1048 v_1049 v_1050 v_1051 v_1052 v_1053 v_1054 v_1055 v_1056 v_1057 v_1058 v_1059 v_1060 v_1061 v_1062 v_1063 v_1064 v_1065 v_1066 v_1067 v_1068 v_1069 v_1070 v_1071 v_1072 v_1073 v_1074 v_1076 v_1077 v_1078 v_1079 v_1081 v_1082 v_1083 v_1084 v_1086 v_1087 v_1088 v_1089 v_1091 v_1092 v_1093 v_1094 v_1095 v_1096 v_1097 : V) {a b : ByteArray} {one : Bool} (hN : 1048580 < N) {j : V → V → V → V → V → V → V → V → V → V → V → V → V → V → V → V → V → V → V → V → V → V → V → V → V → V → V → V → V → V → V → V → V → V → V → V → V → V → V → V → V → V → V → V → V → V → V → V → V → V → V → V → V → V → V → V → V → V → V → V → V → V → V → V → V → V → V → V → V → V → V → V → V → V → V → V → V → V → V → V → V → V → V → ByteArray → ByteArray → Bool → Bool → Option R} {k : Bool → Option R} {r : Option R} (hj : ∀ d0 d1 d2 d3 d4 d5 d6 d7 d8 d9 d10 d11 d12 d13 d14 d15 d16 d17 d18 d19 d20 d21 d22 d23 d24 d25 d26 d27 d28 d29 d30 d31 d32 d33 d34 d35 d36 d37 d38 d39 d40 d41 d42 d43 d44 d45 d46 d47 d48 d49 d50 d51 d52 d53 d54 d55 d56 d57 d58 d59 d60 d61 d62 d63 d64 d65 d66 d67 d68 d69 d70 d71 d72 d73 d74 d75 d76 d77 d78 d79 d80 d81 d82 : V, j d0 d1 d2 d3 d4 d5 d6 d7 d8 d9 d10 d11 d12 d13 d14 d15 d16 d17 d18 d19 d20 d21 d22 d23 d24 d25 d26 d27 d28 d29 d30 d31 d32 d33 d34 d35 d36 d37 d38 d39 d40 d41 d42 d43 d44 d45 d46 d47 d48 d49 d50 d51 d52 d53 d54 d55 d56 d57 d58 d59 d60 d61 d62 d63 d64 d65 d66 d67 d68 d69 d70 d71 d72 d73 d74 d75 d76 d77 d78 d79 d80 d81 d82 a b (inB a b) one = r) : ZhM N e1 f2 e3 f4 v_1009 v_1010 v_1013 v_1014 v_1042 v_1043 v_1045 v_1046 v_1047 v_1048 v_1049 v_1050 v_1051 v_1052 v_1053 v_1054 v_1055 v_1056 v_1057 v_1058 v_1059 v_1060 v_1061 v_1062 v_1063 v_1064 v_1065 v_1066 v_1067 v_1068 v_1069 v_1070 v_1071 v_1072 v_1073 v_1074 v_1076 v_1077 v_1078 v_1079 v_1081 v_1082 v_1083 v_1084 v_1086 v_1087 v_1088 v_1089 v_1091 v_1092 v_1093 v_1094 v_1095 v_1096 v_1097 a b (Zkb a b) (inB a b) (inB a b) one j k = r := by
 unfold ZhM
 cases hin : inB a b with
 | false => rw [hin] at hj; exact hj _ _ _ _ _ _ _ _ _ _ _ _ _ _ _ _ _ _ _ _ _ _ _ _ _ _ _ _ _ _ _ _ _ _ _ _ _ _ _ _ _ _ _ _ _ _ _ _ _ _ _ _ _ _ _ _ _ _ _ _ _ _ _ _ _ _ _ _ _ _ _ _ _ _ _ _ _ _ _ _ _ _ _
 | true =>
  rw [hin] at hj
  obtain ⟨ha, hb, hp⟩ := Zoh hin
  obtain ⟨a1, a2, a3, a4, a5⟩ := Zd5 ha
  obtain ⟨b1, b2, b3, b4, b5⟩ := Zd5 hb
  have hf : Zkb a b = Zcd (cl a) (cl b) := by unfold Zkb; rw [hin]; rfl
  have hrs := Zry (A := cl a) b2
  have hjr := Ztb ha hb hp
  rw [hf]
  simp only
  rw [ZhF N (by omega) (by omega) hN, a3, Bool.true_and]
  cases hpr : ZbQ (Zcd (cl a) (cl b)) with
  | false =>
   simp only [Bool.false_eq_true, if_false]
   rw [Zcr N (by omega) hN, b3]
   exact hj _ _ _ _ _ _ _ _ _ _ _ _ _ _ _ _ _ _ _ _ _ _ _ _ _ _ _ _ _ _ _ _ _ _ _ _ _ _ _ _ _ _ _ _ _ _ _ _ _ _ _ _ _ _ _ _ _ _ _ _ _ _ _ _ _ _ _ _ _ _ _ _ _ _ _ _ _ _ _ _ _ _ _
  | true =>
   simp only [if_true]
   rw [Zcr N (by omega) hN, b3]
   cases hpj : ZbQ (ZfI a (Zcd (cl a) (cl b))) with
   | false => exact hj _ _ _ _ _ _ _ _ _ _ _ _ _ _ _ _ _ _ _ _ _ _ _ _ _ _ _ _ _ _ _ _ _ _ _ _ _ _ _ _ _ _ _ _ _ _ _ _ _ _ _ _ _ _ _ _ _ _ _ _ _ _ _ _ _ _ _ _ _ _ _ _ _ _ _ _ _ _ _ _ _ _ _
   | true =>
    have : Zdm (ZfI a (Zcd (cl a) (cl b))) = Zdm b := by
     unfold Zdm; rw [hpj, b3]; exact hjr
    rw [this, ZbM, decide_eq_true rfl]
    exact hj _ _ _ _ _ _ _ _ _ _ _ _ _ _ _ _ _ _ _ _ _ _ _ _ _ _ _ _ _ _ _ _ _ _ _ _ _ _ _ _ _ _ _ _ _ _ _ _ _ _ _ _ _ _ _ _ _ _ _ _ _ _ _ _ _ _ _ _ _ _ _ _ _ _ _ _ _ _ _ _ _ _ _
theorem ZwJ (A : List ByteArray) : wi A A = true := decide_eq_true (List.prefix_refl A)
theorem Zha : Zbo (ByteArray.mk #[47]) = true := by decide +kernel
theorem Zux : cl (ByteArray.mk #[47]) = [] := by decide +kernel
theorem ZwQ {A B : List ByteArray} (h : A <+: B) : wi B A = decide (A = B) := by
 unfold wi
 rw [Bool.eq_iff_iff, decide_eq_true_iff, decide_eq_true_iff]
 constructor
 ·intro h2
  obtain ⟨t, rfl⟩ := h
  obtain ⟨u, hu⟩ := h2
  have := congrArg List.length hu
  simp only [List.length_append] at this
  have : t = [] := List.eq_nil_of_length_eq_zero (by omega)
  rw [this, List.append_nil]
 ·rintro rfl; exact List.prefix_refl _
theorem ZBE {R : Type} {e1 : List V} {f2 : Fl} {e3 : List V} {f4 : Fl} (v_2007 v_2008 v_2009 v_2010 v_2013 v_2014 v_2015 v_2016 v_2017 v_2018 v_2042 v_2043 v_2045 v_2046 v_2047 v_2048 v_2049 v_2050 v_2051 v_2052 v_2053 v_2054 v_2055 v_2056 v_2057 v_2058 v_2059 v_2060 v_2061 v_2062 v_2063 v_2064 v_2065 v_2066 v_2067 v_2068 v_2069 v_2070 v_2071 v_2072 v_2073 v_2074 v_2076 v_2077 v_2078 v_2079 v_2081 v_2082 v_2083 v_2084 v_2086 v_2087 v_2088 v_2089 v_2091 v_2092 v_2093 v_2094 v_2095 v_2096 v_2097 v_2098 v_2099 v_2100 v_2101 v_2102 v_2103 v_2104 v_2105 v_2106 v_2107 v_2108 v_2109 v_2110 v_2111 v_2112 v_2113 v_2114 v_2115 v_2116 v_2117 v_2118 v_2119 : V) {a b : ByteArray} {one : Bool} (hN : 1048580 < N) (hone : one = (Zbo a && Zbo b)) {j : V → V → V → V → V → V → V → V → V → V → V → V → V → V → V → V → V → V → V → V → V → V → V → V → V → V → V → V → V → V → V → V → V → V → V → V → V → V → V → V → V → V → V → V → V → V → V → V → V → V → V → V → V → V → V → V → V → V → V → V → V → V → V → V → V → V → V → V → V → V → V → V → V → V → V → V → V → V → V → V → V → V → V → V → V → V → V → V → V → V → V → V → V → V → V → V → V → V → V → V → V → V → V → V → V → V → V → V → V → V → V → V → V → V → V → V → V → V → V → V → V → V → V → V → V → V → V → V → V → V → V → V → V → V → V → V → V → V → V → V → V → V → V → V → V → V → V → V → V → V → V → V → V → V → V → V → V → Option R} {k : Bool → Option R} {r : Option R} (hj : ∀ d0 d1 d2 d3 d4 d5 d6 d7 d8 d9 d10 d11 d12 d13 d14 d15 d16 d17 d18 d19 d20 d21 d22 d23 d24 d25 d26 d27 d28 d29 d30 d31 d32 d33 d34 d35 d36 d37 d38 d39 d40 d41 d42 d43 d44 d45 d46 d47 d48 d49 d50 d51 d52 d53 d54 d55 d56 d57 d58 d59 d60 d61 d62 d63 d64 d65 d66 d67 d68 d69 d70 d71 d72 d73 d74 d75 d76 d77 d78 d79 d80 d81 d82 d83 d84 d85 d86 d87 d88 d89 d90 d91 d92 d93 d94 d95 d96 d97 d98 d99 d100 d101 d102 d103 d104 d105 d106 d107 d108 d109 d110 d111 d112 d113 d114 d115 d116 d117 d118 d119 d120 d121 d122 d123 d124 d125 d126 d127 d128 d129 d130 d131 d132 d133 d134 d135 d136 d137 d138 d139 d140 d141 d142 d143 d144 d145 d146 d147 d148 d149 d150 d151 d152 d153 d154 d155 d156 : V, j d0 d1 d2 d3 d4 d5 d6 d7 d8 d9 d10 d11 d12 d13 d14 d15 d16 d17 d18 d19 d20 d21 d22 d23 d24 d25 d26 d27 d28 d29 d30 d31 d32 d33 d34 d35 d36 d37 d38 d39 d40 d41 d42 d43 d44 d45 d46 d47 d48 d49 d50 d51 d52 d53 d54 d55 d56 d57 d58 d59 d60 d61 d62 d63 d64 d65 d66 d67 d68 d69 d70 d71 d72 d73 d74 d75 d76 d77 d78 d79 d80 d81 d82 d83 d84 d85 d86 d87 d88 d89 d90 d91 d92 d93 d94 d95 d96 d97 d98 d99 d100 d101 d102 d103 d104 d105 d106 d107 d108 d109 d110 d111 d112 d113 d114 d115 d116 d117 d118 d119 d120 d121 d122 d123 d124 d125 d126 d127 d128 d129 d130 d131 d132 d133 d134 d135 d136 d137 d138 d139 d140 d141 d142 d143 d144 d145 d146 d147 d148 d149 d150 d151 d152 d153 d154 d155 d156  = r) : ZhX N e1 f2 e3 f4 v_2007 v_2008 v_2009 v_2010 v_2013 v_2014 v_2015 v_2016 v_2017 v_2018 v_2042 v_2043 v_2045 v_2046 v_2047 v_2048 v_2049 v_2050 v_2051 v_2052 v_2053 v_2054 v_2055 v_2056 v_2057 v_2058 v_2059 v_2060 v_2061 v_2062 v_2063 v_2064 v_2065 v_2066 v_2067 v_2068 v_2069 v_2070 v_2071 v_2072 v_2073 v_2074 v_2076 v_2077 v_2078 v_2079 v_2081 v_2082 v_2083 v_2084 v_2086 v_2087 v_2088 v_2089 v_2091 v_2092 v_2093 v_2094 v_2095 v_2096 v_2097 v_2098 v_2099 v_2100 v_2101 v_2102 v_2103 v_2104 v_2105 v_2106 v_2107 v_2108 v_2109 v_2110 v_2111 v_2112 v_2113 v_2114 v_2115 v_2116 v_2117 v_2118 v_2119 a b (inB a b) one j k = r := by
 unfold ZhX
 cases ho : one with
 | false => exact hj _ _ _ _ _ _ _ _ _ _ _ _ _ _ _ _ _ _ _ _ _ _ _ _ _ _ _ _ _ _ _ _ _ _ _ _ _ _ _ _ _ _ _ _ _ _ _ _ _ _ _ _ _ _ _ _ _ _ _ _ _ _ _ _ _ _ _ _ _ _ _ _ _ _ _ _ _ _ _ _ _ _ _ _ _ _ _ _ _ _ _ _ _ _ _ _ _ _ _ _ _ _ _ _ _ _ _ _ _ _ _ _ _ _ _ _ _ _ _ _ _ _ _ _ _ _ _ _ _ _ _ _ _ _ _ _ _ _ _ _ _ _ _ _ _ _ _ _ _ _ _ _ _ _ _ _ _
 | true =>
  rw [ho] at hone
  have h2 := hone.symm
  rw [Bool.and_eq_true] at h2
  obtain ⟨ha, hb⟩ := h2
  obtain ⟨a1, a2, a3, a4, a5⟩ := Zd5 ha
  obtain ⟨b1, b2, b3, b4, b5⟩ := Zd5 hb
  have h1 : (ByteArray.mk #[47]).size ≤ 1048576 := by decide
  simp only
  rw [Zve N (by omega) (by omega) hN, Zve N h1 (by omega) hN]
  have i1 : inB a a = true := by unfold inB; rw [ha, ZwJ]; rfl
  have i2 : inB (ByteArray.mk #[47]) b = true := by
   unfold inB; rw [Zha, hb, Zux, Bool.and_self, Bool.true_and]; exact decide_eq_true (List.nil_prefix (l := cl b))
  rw [i1, i2, ha, hb, Zha]
  simp only [Bool.and_self, Bool.not_true]
  cases hin : inB a b with
  | false => exact hj _ _ _ _ _ _ _ _ _ _ _ _ _ _ _ _ _ _ _ _ _ _ _ _ _ _ _ _ _ _ _ _ _ _ _ _ _ _ _ _ _ _ _ _ _ _ _ _ _ _ _ _ _ _ _ _ _ _ _ _ _ _ _ _ _ _ _ _ _ _ _ _ _ _ _ _ _ _ _ _ _ _ _ _ _ _ _ _ _ _ _ _ _ _ _ _ _ _ _ _ _ _ _ _ _ _ _ _ _ _ _ _ _ _ _ _ _ _ _ _ _ _ _ _ _ _ _ _ _ _ _ _ _ _ _ _ _ _ _ _ _ _ _ _ _ _ _ _ _ _ _ _ _ _ _ _ _
  | true =>
   obtain ⟨_, _, hp⟩ := Zoh hin
   simp only
   rw [Zve N (by omega) (by omega) hN, Zcr N (by omega) hN, Zcr N (by omega) hN, ha, hb, a3, b3]
   have i3 : inB b a = decide (cl a = cl b) := by
    unfold inB; rw [ha, hb, Bool.and_self, Bool.true_and, ZwQ hp]
   have i4 : ((Zdm a).toList == (Zdm b).toList) = decide (cl a = cl b) := by
    rw [ZbM, a5, b5, Bool.eq_iff_iff, decide_eq_true_iff, decide_eq_true_iff]
    exact ⟨fun h => Zix (fun p hp => ZhE hp) (fun p hp => ZhE hp) h, fun h => by rw [h]⟩
   rw [i3, i4]
   simp only [Bool.and_self, Bool.not_true, beq_self_eq_true]
   exact hj _ _ _ _ _ _ _ _ _ _ _ _ _ _ _ _ _ _ _ _ _ _ _ _ _ _ _ _ _ _ _ _ _ _ _ _ _ _ _ _ _ _ _ _ _ _ _ _ _ _ _ _ _ _ _ _ _ _ _ _ _ _ _ _ _ _ _ _ _ _ _ _ _ _ _ _ _ _ _ _ _ _ _ _ _ _ _ _ _ _ _ _ _ _ _ _ _ _ _ _ _ _ _ _ _ _ _ _ _ _ _ _ _ _ _ _ _ _ _ _ _ _ _ _ _ _ _ _ _ _ _ _ _ _ _ _ _ _ _ _ _ _ _ _ _ _ _ _ _ _ _ _ _ _ _ _ _
theorem ZBG {R : Type} {e1 : List V} {f2 : Fl} {e3 : List V} {f4 : Fl} (h3 : Zcb e3) (hN : 1048580 < N) (k : Bool → Option R) : Zjt N e1 f2 e3 f4 k = k true := by
 unfold Zjt
 obtain ⟨x, y, q1, q2, q3⟩ := Zhw N h3 f4.noOwn.noOwn (by omega)
 obtain ⟨d, p1, p2⟩ := ZlR N h3 f4.noOwn.noOwn (by omega)
 refine (q3 R _).trans ?_
 rw [ZhF N (by omega) (by omega) hN, Zyu N (by omega) (by omega) hN, Zyu N (by omega) (by omega) hN]
 split <;>
  (refine (p2 R _).trans ?_
   rw [ZwD N (by omega) hN, ZAx N (by omega) hN]
   simp only [beq_self_eq_true])
theorem ZzL {R : Type} (e1 : List V) (f2 : Fl) (e3 : List V) (f4 : Fl) (k : Bool → Option R) : ∃ b, Zt9 N e1 f2 e3 f4 k = k b := by
 rw [Zos]
 unfold Zlk
 cases decide ((e1.length : Int) > 1048576) with
 | true => exact ⟨true, rfl⟩
 | false => exact ⟨_, rfl⟩
theorem law_FnWithin {R : Type} {e1 : List V} {f2 : Fl} {e3 : List V} {f4 : Fl} (h1 : Zcb e1) (h3 : Zcb e3) (hN : 1048580 < N) (k : Bool → Option R) : Zhn N e1 f2 e3 f4 k = k true := by
 unfold Zhn Zpt
 obtain ⟨b, hb⟩ := ZzL N e1 f2.noOwn.noOwn e3 f4.noOwn.noOwn (R := R) (fun b1 => _)
 refine hb.trans ?_
 cases b with
 | true => rfl
 | false =>
  obtain ⟨x, y, p1, p2, p3⟩ := Zkg N h1 f2.noOwn.noOwn (by omega)
  refine (p3 R _).trans ?_
  rw [Zyk N (by omega) (by omega) hN, ZAs N (by omega) (by omega) hN, Zve N (by omega) (by omega) hN, ZAy N (by omega) (by omega) hN]
  simp only [beq_self_eq_true, Bool.not_true]
  have fin : ∀ one, one = (Zbo x && Zbo y) → ∀ v_1009 v_1010 v_1013 v_1014 v_1042 v_1043 v_1045 v_1046 v_1047 v_1048 v_1049 v_1050 v_1051 v_1052 v_1053 v_1054 v_1055 v_1056 v_1057 v_1058 v_1059 v_1060 v_1061 v_1062 v_1063 v_1064 v_1065 v_1066 v_1067 v_1068 v_1069 v_1070 v_1071 v_1072 v_1073 v_1074 v_1076 v_1077 v_1078 v_1079 v_1081 v_1082 v_1083 v_1084 v_1086 v_1087 v_1088 v_1089 v_1091 v_1092 v_1093 v_1094 v_1095 v_1096 v_1097 : V, ZhM N e1 f2 e3 f4 v_1009 v_1010 v_1013 v_1014 v_1042 v_1043 v_1045 v_1046 v_1047 v_1048 v_1049 v_1050 v_1051 v_1052 v_1053 v_1054 v_1055 v_1056 v_1057 v_1058 v_1059 v_1060 v_1061 v_1062 v_1063 v_1064 v_1065 v_1066 v_1067 v_1068 v_1069 v_1070 v_1071 v_1072 v_1073 v_1074 v_1076 v_1077 v_1078 v_1079 v_1081 v_1082 v_1083 v_1084 v_1086 v_1087 v_1088 v_1089 v_1091 v_1092 v_1093 v_1094 v_1095 v_1096 v_1097 x y (Zkb x y) (inB x y) (inB x y) one (fun v_2007 v_2008 v_2009 v_2010 v_2013 v_2014 v_2015 v_2016 v_2017 v_2018 v_2042 v_2043 v_2045 v_2046 v_2047 v_2048 v_2049 v_2050 v_2051 v_2052 v_2053 v_2054 v_2055 v_2056 v_2057 v_2058 v_2059 v_2060 v_2061 v_2062 v_2063 v_2064 v_2065 v_2066 v_2067 v_2068 v_2069 v_2070 v_2071 v_2072 v_2073 v_2074 v_2076 v_2077 v_2078 v_2079 v_2081 v_2082 v_2083 v_2084 v_2086 v_2087 v_2088 v_2089 v_2091 v_2092 v_2093 v_2094 v_2095 v_2096 v_2097 v_2098 v_2099 v_2100 v_2101 v_2102 v_2103 v_2104 v_2105 v_2106 v_2107 v_2108 v_2109 v_2110 v_2111 v_2112 v_2113 v_2114 v_2115 v_2116 v_2117 v_2118 v_2119 w_901 w_902 b_903 b_904 => ZhX N e1 f2 e3 f4 v_2007 v_2008 v_2009 v_2010 v_2013 v_2014 v_2015 v_2016 v_2017 v_2018 v_2042 v_2043 v_2045 v_2046 v_2047 v_2048 v_2049 v_2050 v_2051 v_2052 v_2053 v_2054 v_2055 v_2056 v_2057 v_2058 v_2059 v_2060 v_2061 v_2062 v_2063 v_2064 v_2065 v_2066 v_2067 v_2068 v_2069 v_2070 v_2071 v_2072 v_2073 v_2074 v_2076 v_2077 v_2078 v_2079 v_2081 v_2082 v_2083 v_2084 v_2086 v_2087 v_2088 v_2089 v_2091 v_2092 v_2093 v_2094 v_2095 v_2096 v_2097 v_2098 v_2099 v_2100 v_2101 v_2102 v_2103 v_2104 v_2105 v_2106 v_2107 v_2108 v_2109 v_2110 v_2111 v_2112 v_2113 v_2114 v_2115 v_2116 v_2117 v_2118 v_2119 w_901 w_902 b_903 b_904 (fun _ _ _ _ _ _ _ _ _ _ _ _ _ _ _ _ _ _ _ _ _ _ _ _ _ _ _ _ _ _ _ _ _ _ _ _ _ _ _ _ _ _ _ _ _ _ _ _ _ _ _ _ _ _ _ _ _ _ _ _ _ _ _ _ _ _ _ _ _ _ _ _ _ _ _ _ _ _ _ _ _ _ _ _ _ _ _ _ _ _ _ _ _ _ _ _ _ _ _ _ _ _ _ _ _ _ _ _ _ _ _ _ _ _ _ _ _ _ _ _ _ _ _ _ _ _ _ _ _ _ _ _ _ _ _ _ _ _ _ _ _ _ _ _ _ _ _ _ _ _ _ _ _ _ _ _ _ => Zjt N e1 f2 e3 f4 k) k) k = k true := by
   intro one hone v_1009 v_1010 v_1013 v_1014 v_1042 v_1043 v_1045 v_1046 v_1047 v_1048 v_1049 v_1050 v_1051 v_1052 v_1053 v_1054 v_1055 v_1056 v_1057 v_1058 v_1059 v_1060 v_1061 v_1062 v_1063 v_1064 v_1065 v_1066 v_1067 v_1068 v_1069 v_1070 v_1071 v_1072 v_1073 v_1074 v_1076 v_1077 v_1078 v_1079 v_1081 v_1082 v_1083 v_1084 v_1086 v_1087 v_1088 v_1089 v_1091 v_1092 v_1093 v_1094 v_1095 v_1096 v_1097
   refine ZBF N _ _ _ _ _ _ _ _ _ _ _ _ _ _ _ _ _ _ _ _ _ _ _ _ _ _ _ _ _ _ _ _ _ _ _ _ _ _ _ _ _ _ _ _ _ _ _ _ _ _ _ _ _ _ _ hN ?_
   intros
   refine ZBE N _ _ _ _ _ _ _ _ _ _ _ _ _ _ _ _ _ _ _ _ _ _ _ _ _ _ _ _ _ _ _ _ _ _ _ _ _ _ _ _ _ _ _ _ _ _ _ _ _ _ _ _ _ _ _ _ _ _ _ _ _ _ _ _ _ _ _ _ _ _ _ _ _ _ _ _ _ _ _ _ _ _ _ hN hone ?_
   intros
   exact ZBG N h3 hN k
  cases ho : Zbo x && Zbo y with
  | true => exact fin true ho.symm _ _ _ _ _ _ _ _ _ _ _ _ _ _ _ _ _ _ _ _ _ _ _ _ _ _ _ _ _ _ _ _ _ _ _ _ _ _ _ _ _ _ _ _ _ _ _ _ _ _ _ _ _ _ _
  | false => exact fin false ho.symm _ _ _ _ _ _ _ _ _ _ _ _ _ _ _ _ _ _ _ _ _ _ _ _ _ _ _ _ _ _ _ _ _ _ _ _ _ _ _ _ _ _ _ _ _ _ _ _ _ _ _ _ _ _ _
end
end Go.VM.VL
