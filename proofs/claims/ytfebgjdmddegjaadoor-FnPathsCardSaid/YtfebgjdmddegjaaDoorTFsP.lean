/- The plain laws of the printed functions, from the bottom up to the law itself. -/
import Derived.Test.YtfebgjdmddegjaaDoorXPa
import Derived.Test.YtfebgjdmddegjaaDoorTLib
import Derived.Test.YtfebgjdmddegjaaDoorVmZc
import Derived.Test.YtfebgjdmddegjaaDoorVmZe
import Derived.Lib.Bytealg
import Derived.Lib.IndexLaws
set_option linter.unusedSimpArgs false
set_option linter.unusedVariables false
namespace Go.VM.VL
open Go
section
section loops
variable {R β : Type} {l : Nat → Nat → Option R} {len : Nat} {k0 k1 : Option R}
theorem Zml (hs : ∀ n i, i < len → l (n + 1) i = l n (i + 1)) (he : ∀ n, l (n + 1) len = k1) : ∀ (d n i : Nat), i + d = len → d < n → l n i = k1 := by
 intro d
 induction d with
 | zero =>
  intro n i hi hn
  obtain ⟨n, rfl⟩ : ∃ m, n = m + 1 := ⟨n - 1, by omega⟩
  obtain rfl : i = len := by omega
  exact he n
 | succ d ih =>
  intro n i hi hn
  obtain ⟨n, rfl⟩ : ∃ m, n = m + 1 := ⟨n - 1, by omega⟩
  rw [hs n i (by omega)]
  exact ih n (i + 1) (by omega) (by omega)
theorem Zff (hs : ∀ n i, i < len → l (n + 1) i = l n (i + 1)) (he : ∀ n, l (n + 1) len = k1) {N : Nat} (hN : len < N) : l N 0 = k1 :=
 Zml hs he len N 0 (by omega) hN
theorem ZmN {q : Nat → Option β} {kb : β → Option R} (hs : ∀ n i, i < len → (∀ j, j < i → q j = none) → l (n + 1) i = match q i with | some b => kb b | none => l n (i + 1)) (he : (∀ j, j < len → q j = none) → ∀ n, l (n + 1) len = k1) :
  ∀ (d n i : Nat), i + d = len → d < n → (∀ j, j < i → q j = none) → l n i = match (List.range' i d).findSome? q with | some b => kb b | none => k1 := by
 intro d
 induction d with
 | zero =>
  intro n i hi hn hq
  obtain ⟨n, rfl⟩ : ∃ m, n = m + 1 := ⟨n - 1, by omega⟩
  obtain rfl : i = len := by omega
  rw [he hq n]; rfl
 | succ d ih =>
  intro n i hi hn hq
  obtain ⟨n, rfl⟩ : ∃ m, n = m + 1 := ⟨n - 1, by omega⟩
  rw [hs n i (by omega) hq, List.range'_succ, List.findSome?_cons]
  cases h : q i with
  | none => exact ih n (i + 1) (by omega) (by omega) fun j hj => (by
    rcases Nat.lt_or_ge j i with h2 | h2
    ·exact hq j h2
    ·obtain rfl : j = i := by omega
     exact h)
  | some b => rfl
theorem Zdr {q : Nat → Option β} {kb : β → Option R} (hs : ∀ n i, i < len → (∀ j, j < i → q j = none) → l (n + 1) i = match q i with | some b => kb b | none => l n (i + 1)) (he : (∀ j, j < len → q j = none) → ∀ n, l (n + 1) len = k1) {N : Nat} (hN : len < N) :
  l N 0 = match (List.range' 0 len).findSome? q with | some b => kb b | none => k1 :=
 ZmN hs he len N 0 (by omega) hN fun j hj => absurd hj (by omega)
theorem ZjS {p : Nat → Bool} (hs : ∀ n i, i < len → (∀ j, j < i → p j = true) → l (n + 1) i = if p i then l n (i + 1) else k0) (he : (∀ j, j < len → p j = true) → ∀ n, l (n + 1) len = k1) {N : Nat} (hN : len < N) :
  l N 0 = if (List.range' 0 len).all p then k1 else k0 := by
 have := Zdr (l := l) (len := len) (k1 := k1) (q := fun i => if p i then none else some ()) (kb := fun _ => k0)
  (fun n i hi hq => by
   rw [hs n i hi fun j hj => by
    have := hq j hj
    cases hp : p j with
    | true => rfl
    | false => simp [hp] at this]
   cases p i <;> rfl)
  (fun hq n => he (fun j hj => by
   have := hq j hj
   cases hp : p j with
   | true => rfl
   | false => simp [hp] at this) n) hN
 rw [this]
 generalize List.range' 0 len = L
 clear this hs he
 induction L with
 | nil => rfl
 | cons a L ih =>
  rw [List.findSome?_cons, List.all_cons]
  cases hp : p a with
  | false => simp
  | true => simpa using ih
theorem ZdP {p : Nat → Bool} {len : Nat} : (List.range' 0 len).all p = true ↔ ∀ i, i < len → p i = true := by
 rw [List.all_eq_true]
 exact ⟨fun h i hi => h i (by rw [List.mem_range']; exact ⟨i, hi, by omega⟩), fun h i hi => by
  rw [List.mem_range'] at hi
  obtain ⟨j, hj, rfl⟩ := hi
  exact h _ (by omega)⟩
theorem Zf1 {q : Nat → Option β} {len : Nat} : (List.range' 0 len).findSome? q = none ↔ ∀ i, i < len → q i = none := by
 rw [List.findSome?_eq_none_iff]
 exact ⟨fun h i hi => h i (by rw [List.mem_range']; exact ⟨i, hi, by omega⟩), fun h i hi => by
  rw [List.mem_range'] at hi
  obtain ⟨j, hj, rfl⟩ := hi
  exact h _ (by omega)⟩
end loops
theorem ZiY {α β : Type} (f : α → β) (l : List α) (i : Nat) : nth (l.map f) i = (nth l i).map f := by rw [Zaf, Zaf, List.getElem?_map]
theorem Ztp {α β : Type} (f : α → β) (l : List α) (i : Nat) (v : α) : ZaM (l.map f) i (f v) = (ZaM l i v).map f := by rw [Zbl, Zbl, List.map_set]
theorem ZnG {α : Type} {l : List α} {i : Nat} (h : i < l.length) : nth l i = some l[i] := by rw [Zaf, List.getElem?_eq_getElem h]
theorem Zxk {α : Type} {l : List α} {i : Nat} {v : α} (h : i < l.length) : nth (ZaM l i v) i = some v := by rw [Zaf, Zbl, List.getElem?_set_self h]
theorem Zd4 {α : Type} {f : α → Option α} : ∀ {l : List α}, (∀ v ∈ l, f v = some v) → ZaX f l = some l
 | [], _ => rfl
 | a :: l, h => by
  simp only [ZaX, h a (by simp), Zd4 (l := l) fun v hv => h v (by simp [hv])]
def inR (a b c : Int) : Bool := decide (b ≤ a) && decide (a ≤ c)
theorem Zi7 {a b c : Int} : inR a b c = true ↔ b ≤ a ∧ a ≤ c := by simp [inR]
theorem Zba {i : Nat} (h : i < 9223372036854775807) : IntKind.i64.wrap ((i : Int) + 1) = ((i + 1 : Nat) : Int) := by
 rw [Za5 (by omega) (by omega)]; rfl
theorem Zci {i n : Nat} (h : i < n) : decide ((i : Int) < (n : Int)) = true := decide_eq_true (by omega)
def Zay (l : List ByteArray) : List V := l.map V.str
def Zvu (l : List Int) : List V := l.map (V.int .i64)
def at_ {α : Type} [Inhabited α] (l : List α) (i : Nat) : α := l.getD i default
theorem ZbZ {α : Type} [Inhabited α] {l : List α} {i : Nat} (h : i < l.length) : at_ l i = l[i] := by
 simp [at_, List.getD_eq_getElem?_getD, List.getElem?_eq_getElem h]
theorem ZeC {α : Type} [Inhabited α] {l : List α} {i : Nat} (h : i < l.length) : at_ l i ∈ l := by rw [ZbZ h]; exact List.getElem_mem h
theorem ZaO (l : List ByteArray) : (Zay l).length = l.length := by simp [Zay]
theorem ZAI (l : List Int) : (Zvu l).length = l.length := by simp [Zvu]
theorem ZbC {l : List ByteArray} {i : Nat} (h : i < l.length) : nth (Zay l) i = some (.str (at_ l i)) := by rw [Zay, ZiY, ZnG h, ZbZ h]; rfl
theorem ZAM {l : List Int} {i : Nat} (h : i < l.length) : nth (Zvu l) i = some (.int .i64 (at_ l i)) := by rw [Zvu, ZiY, ZnG h, ZbZ h]; rfl
variable {R : Type}
theorem Zae (v : V) (k : V → Option R) : ZbT (some v) k = k v := rfl
theorem ZbF (b : ByteArray) (k : ByteArray → Option R) : Za1 (.str b) k = k b := rfl
theorem ZyN (n : Int) (k : Int → Option R) : asInt .i64 (.int .i64 n) k = k n := rfl
theorem Zyi (b : Bool) (k : Bool → Option R) : asBool (.bool b) k = k b := rfl
variable (N : Nat)
end
section
def Ze0 (xs : List V) (z : V) (i : Nat) : List V := xs.take i ++ List.replicate (xs.length - i) z
theorem ZuV (xs : List V) (z : V) {i : Nat} (h : i ≤ xs.length) : (Ze0 xs z i).length = xs.length := by
 simp only [Ze0, List.length_append, List.length_take, List.length_replicate]; omega
theorem Zl6 (xs : List V) (z : V) {i : Nat} (h : i < xs.length) : nth (Ze0 xs z i) i = some z := by
 rw [Zaf, Ze0, List.getElem?_append_right (by simp only [List.length_take]; omega)]
 rw [List.getElem?_replicate, if_pos (by simp; omega)]
theorem Zlh (xs : List V) (z v : V) {i : Nat} (h : i < xs.length) (hv : nth xs i = some v) : ZaM (Ze0 xs z i) i v = Ze0 xs z (i + 1) := by
 have hv' : xs[i]? = some v := by rw [← Zaf]; exact hv
 rw [Zbl]
 apply List.ext_getElem?
 intro j
 rw [List.getElem?_set]
 have hlen := ZuV xs z (i := i) (by omega)
 have hT : (xs.take i).length = i := by simp; omega
 have hT2 : (xs.take (i + 1)).length = i + 1 := by simp; omega
 by_cases hij : i = j
 ·subst hij
  rw [if_pos rfl, if_pos (by omega)]
  unfold Ze0
  rw [List.getElem?_append_left (by omega), List.getElem?_take_of_lt (by omega), hv']
 ·rw [if_neg hij]
  unfold Ze0
  rcases Nat.lt_or_ge j i with h2 | h2
  ·rw [List.getElem?_append_left (by omega), List.getElem?_append_left (by omega), List.getElem?_take_of_lt (by omega), List.getElem?_take_of_lt (by omega)]
  ·rw [List.getElem?_append_right (by omega), List.getElem?_append_right (by omega), List.getElem?_replicate, List.getElem?_replicate, hT, hT2]
   by_cases h3 : j - i < xs.length - i
   ·rw [if_pos h3, if_pos (by omega)]
   ·rw [if_neg h3, if_neg (by omega)]
theorem Zq7 (xs : List V) (z : V) : Ze0 xs z 0 = List.replicate xs.length z := by simp [Ze0]
theorem Zt2 (xs : List V) (z : V) : Ze0 xs z xs.length = xs := by simp [Ze0]
variable {R : Type} (N : Nat)
end
section
open Go
abbrev bl (w : ByteArray) : List UInt8 := w.data.toList
def ba (l : List UInt8) : ByteArray := ⟨⟨l⟩⟩
theorem Zi6 (w : ByteArray) : ba (bl w) = w := rfl
theorem ZfU (l : List UInt8) : bl (ba l) = l := rfl
theorem ZaA (w : ByteArray) : w.size = (bl w).length := Array.length_toList.symm
theorem Zea (w : ByteArray) (a b : Nat) : bl (ByteArray.extract w a b) = ((bl w).take b).drop a := by
 rw [bl, ByteArray.data_extract, Array.toList_extract, List.extract_eq_take_drop, List.drop_take]
theorem Zch (w : ByteArray) (a b : Nat) : ByteArray.extract w a b = ba (((bl w).take b).drop a) := by rw [← Zea]; rfl
variable {R : Type} (N : Nat)
theorem ZbQ (w : ByteArray) {i : Nat} (h : i < (bl w).length) (k : Int → Option R) : Zcd w (i : Int) k = k ((at_ (bl w) i).toNat : Int) := by
 unfold Zcd
 rw [if_pos (by omega), Int.toNat_natCast]
 have e : w.data[i]? = some (bl w)[i] := by rw [← Array.getElem?_toList, List.getElem?_eq_getElem h]
 rw [e, ZbZ h]
theorem ZBT (a b c : Int) (k : Bool → Option R) : Zva N a b c k = k (inR a b c) := by
 rw [ZpP]
 unfold Zlb inR
 by_cases h : b ≤ a
 ·rw [decide_eq_true (show a ≥ b from h)]; simp
 ·rw [decide_eq_false (show ¬ a ≥ b from h)]; simp
theorem Zzv (a b c : Int) (k : Bool → Option R) : ZuE N a b c k = k (inR a b c) := by
 rw [ZoC]
 unfold Zl4 inR
 by_cases h : b ≤ a
 ·rw [decide_eq_true (show a ≥ b from h)]; simp
 ·rw [decide_eq_false (show ¬ a ≥ b from h)]; simp
def Zgq (n : Int) : Bool := (!decide (n < 97) && !decide (n > 122)) || (!decide (n < 48) && !decide (n > 57)) || (n == 46) || (n == 95) || (n == 45)
def ZfY (w : ByteArray) : Bool := (List.range' 0 w.size).all fun i => Zgq ((at_ (bl w) i).toNat : Int)
def Zcn (w : ByteArray) : Bool := ZfY w && inR (w.size : Int) 1 8
def ZhX (w : ByteArray) : Bool := w.toList == (ByteArray.mk #[46]).toList
def ZbG (w : ByteArray) : Bool := w.toList == (ByteArray.mk #[46, 46]).toList
def ZbD (w : ByteArray) : Bool := w.toList == (ByteArray.mk #[]).toList
def Zcs (w : ByteArray) : Bool := Zcn w && !ZhX w && !ZbG w
theorem ZcA (w : ByteArray) : ZbD w = decide (w.size = 0) := by
 unfold ZbD
 rw [ByteArray.toList_eq, ByteArray.toList_eq, ZaA]
 cases h : bl w with
 | nil => rw [show w.data.toList = [] from h]; rfl
 | cons a l => rw [show w.data.toList = a :: l from h]; rfl
theorem Zyx {w : ByteArray} (hw : w.size ≤ 1048576) (hN : 1048576 < N) (k : Bool → Option R) : ZrG N w k = k (Zcs w) := by
 rw [Zp8]
 unfold Zkz
 rw [Zzv]
 refine (ZjS (l := fun n i => ZdQ N w _ _ n (i : Int)) (len := w.size) (p := fun i => Zgq ((at_ (bl w) i).toNat : Int)) (k0 := k false) (k1 := (match inR (w.size : Int) 1 8 with
  | true => (match (!(w.toList == (ByteArray.mk #[46]).toList)) with
   | true => k (!(w.toList == (ByteArray.mk #[46, 46]).toList))
   | false => k false)
  | false => k false)) ?_ ?_ (show w.size < N by omega)).trans ?_
 ·intro n i hi _
  simp only [ZdQ, ZcM, Zci hi]
  rw [ZbQ w (by rw [← ZaA]; exact hi), Zba (i := i) (by omega)]
  generalize ZdQ N w _ _ n ((i + 1 : Nat) : Int) = X
  generalize ((at_ (bl w) i).toNat : Int) = x
  unfold Zgq
  simp only [bne]
  generalize decide (x < 97) = a
  generalize decide (x > 122) = b
  generalize decide (x < 48) = c
  generalize decide (x > 57) = d
  generalize (x == 46) = e
  generalize (x == 95) = f
  generalize (x == 45) = g
  cases a <;> cases b <;> cases c <;> cases d <;> cases e <;> cases f <;> cases g <;> rfl
 ·intro _ n
  simp only [ZdQ, ZcM, Int.lt_irrefl, decide_false]
  rfl
 ·show (if ZfY w = true then _ else _) = _
  unfold Zcs Zcn ZhX ZbG
  cases ZfY w <;> cases inR (w.size : Int) 1 8 <;> cases (w.toList == (ByteArray.mk #[46]).toList) <;> cases (w.toList == (ByteArray.mk #[46, 46]).toList) <;> rfl
theorem Zk8 (x : Int) (k : Bool → Option R) : Zw2 N x k = k (Zgq x) := by
 rw [Zp4]
 unfold Zlj Zgq
 rw [show decide (x ≥ 97) = !decide (x < 97) by by_cases h : x < 97 <;> simp [h] <;> omega, show decide (x ≤ 122) = !decide (x > 122) by by_cases h : x > 122 <;> simp [h] <;> omega,
  show decide (x ≥ 48) = !decide (x < 48) by by_cases h : x < 48 <;> simp [h] <;> omega, show decide (x ≤ 57) = !decide (x > 57) by by_cases h : x > 57 <;> simp [h] <;> omega]
 generalize decide (x < 97) = a
 generalize decide (x > 122) = b
 generalize decide (x < 48) = c
 generalize decide (x > 57) = d
 generalize (x == 46) = e
 generalize (x == 95) = f
 generalize (x == 45) = g
 cases a <;> cases b <;> cases c <;> cases d <;> cases e <;> cases f <;> cases g <;> rfl
theorem Zrb {w : ByteArray} {i : Nat} (h : i < (bl w).length) : nth (Zct w) i = some (.int .u8 ((at_ (bl w) i).toNat : Int)) := by
 rw [Zct, ZiY, ZnG h, ZbZ h]; rfl
theorem Zq2 (w : ByteArray) : (Zct w).length = w.size := by rw [Zct, List.length_map]; exact Array.length_toList
theorem Zwf (n : Int) (k : Int → Option R) : asInt .u8 (.int .u8 n) k = k n := rfl
def Zd2 (q : Nat → Bool) (len : Nat) : Int := match (List.range' 0 len).findSome? (fun i => if q i then some i else none) with | some i => (i : Int) | none => -1
theorem ZdY {q : Nat → Bool} {len : Nat} : decide (Zd2 q len ≥ 0) = !(List.range' 0 len).all (fun i => !q i) := by
 unfold Zd2
 cases h : (List.range' 0 len).findSome? (fun i => if q i then some i else none) with
 | none =>
  have h2 : (List.range' 0 len).all (fun i => !q i) = true := ZdP.2 fun i hi => by
   have := Zf1.1 h i hi
   cases hq : q i with
   | true => simp [hq] at this
   | false => rfl
  rw [h2]; rfl
 | some j =>
  have h2 : ¬ (List.range' 0 len).all (fun i => !q i) = true := fun h2 => by
   have h3 : (List.range' 0 len).findSome? (fun i => if q i then some i else none) = none := Zf1.2 fun i hi => by
    have := ZdP.1 h2 i hi
    cases hq : q i with
    | true => simp [hq] at this
    | false => rfl
   rw [h] at h3; cases h3
  rw [Bool.eq_false_iff.2 h2]
  simp
theorem Zpb {w : ByteArray} (hw : w.size ≤ 1048576) (hN : 1048576 < N) (k : Bool → Option R) : ZsO N w k = k (Zcn w) := by
 rw [Zqe]
 unfold Zll
 rw [ZBT]
 have hc : ∀ K : Bool → Option R, ZvX N (Zct w) .sh K = K (!ZfY w) := by
  intro K
  rw [Zpn]
  unfold Zlt
  rw [Zow]
  unfold Zme
  rw [Zq2]
  refine (Zdr (β := Nat) (l := fun n i => Ze1 N (Zct w) _ (w.size : Int) _ _ n (i : Int)) (len := w.size) (q := fun i => if !Zgq ((at_ (bl w) i).toNat : Int) then some i else none) (kb := fun i => K (decide ((i : Int) ≥ 0))) (k1 := K (decide ((-1 : Int) ≥ 0))) ?_ ?_ (show w.size < N by omega)).trans ?_
  ·intro n i hi _
   have hi' : i < (bl w).length := by rw [← ZaA]; exact hi
   simp only [Ze1, ZcH, Zci hi, Int.natCast_nonneg, if_true, Int.toNat_natCast, Zrb hi', Zae, Zwf]
   rw [Zqi]
   unfold Zld
   rw [Zk8, Zba (i := i) (by omega)]
   cases Zgq ((at_ (bl w) i).toNat : Int) <;> rfl
  ·intro _ n
   simp only [Ze1, ZcH, Int.lt_irrefl, decide_false]
  ·have := ZdY (q := fun i => !Zgq ((at_ (bl w) i).toNat : Int)) (len := w.size)
   unfold Zd2 at this
   unfold ZfY
   simp only [Bool.not_not] at this
   rw [← this]
   generalize (List.range' 0 w.size).findSome? _ = o
   cases o <;> rfl
 simp only [hc]
 unfold Zcn
 cases ZfY w <;> cases inR (w.size : Int) 1 8 <;> rfl
theorem Zem {w : ByteArray} (hw : w.size ≤ 1048576) (hN : 1048576 < N) (k : Bool → Option R) : Zht N w k = k (Zcs w) := by
 rw [Zqw]
 unfold Zk5
 rw [Zpb N hw hN]
 rw [ZpM]
 unfold ZlU Zcs ZhX ZbG
 cases Zcn w <;> cases (w.toList == (ByteArray.mk #[46]).toList) <;> cases (w.toList == (ByteArray.mk #[46, 46]).toList) <;> rfl
end
section
open Go
def ZaV (c : UInt8) : List UInt8 → List (List UInt8)
 | [] => [[]]
 | b :: l => if b = c then [] :: ZaV c l else match ZaV c l with
  | p :: ps => (b :: p) :: ps
  | [] => [[b]]
theorem Zco (c : UInt8) : ∀ l, ZaV c l ≠ []
 | [] => by simp [ZaV]
 | b :: l => by
  unfold ZaV
  split
  ·simp
  ·split <;> simp
theorem Zc3 (c : UInt8) : ∀ l, (ZaV c l).length = l.count c + 1
 | [] => rfl
 | b :: l => by
  have ih := Zc3 c l
  unfold ZaV
  split
  ·rename_i h
   rw [List.length_cons, ih, h, List.count_cons_self]
  ·rename_i h
   rw [List.count_cons_of_ne h]
   cases h2 : ZaV c l with
   | nil => exact absurd h2 (Zco c l)
   | cons p ps => rw [h2] at ih; exact ih
def ZvW (x : List UInt8) : List (List UInt8) → List (List UInt8)
 | p :: ps => (x ++ p) :: ps
 | [] => [x]
theorem Zb0 {c b : UInt8} (h : b = c) (l : List UInt8) : ZaV c (b :: l) = [] :: ZaV c l := by rw [ZaV, if_pos h]
theorem ZbV {c b : UInt8} (h : b ≠ c) (l : List UInt8) : ZaV c (b :: l) = ZvW [b] (ZaV c l) := by
 conv => lhs; unfold ZaV
 rw [if_neg h]
 cases ZaV c l <;> rfl
theorem Zul (x y : List UInt8) (ps : List (List UInt8)) (h : ps ≠ []) : ZvW x (ZvW y ps) = ZvW (x ++ y) ps := by
 cases ps with
 | nil => exact absurd rfl h
 | cons p ps => simp [ZvW]
def Zep (c : UInt8) (l : List UInt8) : Nat → List (List UInt8) × Nat
 | 0 => ([], 0)
 | i + 1 => if at_ l i = c then ((Zep c l i).1 ++ [(l.take i).drop (Zep c l i).2], i + 1) else Zep c l i
theorem Zg2 (c : UInt8) (l : List UInt8) : ∀ i, (Zep c l i).2 ≤ i ∧ (Zep c l i).1.length ≤ i
 | 0 => ⟨Nat.le_refl _, Nat.le_refl _⟩
 | i + 1 => by
  have := Zg2 c l i
  unfold Zep
  split
  ·simp; omega
  ·omega
theorem Zpr (c : UInt8) (l : List UInt8) : ∀ i, i ≤ l.length → (Zep c l i).1 ++ ZvW ((l.take i).drop (Zep c l i).2) (ZaV c (l.drop i)) = ZaV c l
 | 0, _ => by
  simp only [Zep, List.drop_zero, List.take_zero, List.nil_append]
  cases h : ZaV c l with
  | nil => exact absurd h (Zco c l)
  | cons p ps => rfl
 | i + 1, hi => by
  have ih := Zpr c l i (by omega)
  have hlt : i < l.length := by omega
  have hle := (Zg2 c l i).1
  rw [List.drop_eq_getElem_cons hlt] at ih
  unfold Zep
  by_cases h : at_ l i = c
  ·rw [ZbZ hlt] at h
   rw [Zb0 h] at ih
   rw [ZbZ hlt, if_pos h]
   simp only [List.append_assoc]
   rw [← ih]
   congr 1
   have e : (l.take (i + 1)).drop (i + 1) = [] := by
    apply List.drop_eq_nil_of_le
    simp only [List.length_take]; omega
   simp only [e, ZvW, List.append_nil, List.singleton_append]
   congr 1
   cases h2 : ZaV c (l.drop (i + 1)) with
   | nil => exact absurd h2 (Zco c _)
   | cons p ps => rfl
  ·rw [ZbZ hlt] at h
   rw [ZbV h, Zul _ _ _ (Zco c _)] at ih
   rw [ZbZ hlt, if_neg h, ← ih]
   congr 2
   rw [List.take_succ_eq_append_getElem hlt, List.drop_append_of_le_length (by simp only [List.length_take]; omega)]
theorem ZsL (c : UInt8) (l : List UInt8) : (Zep c l l.length).1 ++ [l.drop (Zep c l l.length).2] = ZaV c l := by
 have := Zpr c l l.length (Nat.le_refl _)
 simpa [ZaV, ZvW] using this
def ZaW (w : ByteArray) : List ByteArray := (ZaV 47 (bl w)).map ba
def ZaL (w : ByteArray) : List ByteArray := (ZaW w).filter fun p => !ZbD p
theorem Zf5 (w : ByteArray) : (ZaW w).length ≤ w.size + 1 := by
 unfold ZaW
 rw [List.length_map, Zc3, ZaA]
 have := List.count_le_length (a := (47 : UInt8)) (l := bl w)
 omega
theorem Zc0 (w : ByteArray) : (ZaL w).length ≤ w.size + 1 := Nat.le_trans (List.length_filter_le _ _) (Zf5 w)
theorem ZeB (c : UInt8) : ∀ l, ∀ p ∈ ZaV c l, p.length ≤ l.length
 | [], p, h => by simp [ZaV] at h; subst h; exact Nat.le_refl _
 | b :: l, p, h => by
  have ih := ZeB c l
  by_cases hb : b = c
  ·rw [Zb0 hb] at h
   rcases List.mem_cons.1 h with rfl | h
   ·simp
   ·have := ih p h; rw [List.length_cons]; omega
  ·rw [ZbV hb] at h
   cases h2 : ZaV c l with
   | nil => exact absurd h2 (Zco c l)
   | cons q qs =>
    rw [h2] at h ih
    rcases List.mem_cons.1 h with rfl | h
    ·have := ih q (by simp)
     simp; omega
    ·have := ih p (by simp [h]); rw [List.length_cons]; omega
theorem ZeG {w p : ByteArray} (h : p ∈ ZaL w) : p.size ≤ w.size := by
 obtain ⟨q, hq, rfl⟩ := List.mem_map.1 (List.mem_filter.1 h).1
 rw [ZaA, ZaA, ZfU]
 exact ZeB 47 _ _ hq
variable {R : Type} (N : Nat)
theorem Ztw {b c : UInt8} : ((b.toNat : Int) == (c.toNat : Int)) = decide (b = c) := by
 by_cases h : b = c
 ·subst h; simp
 ·rw [decide_eq_false h]
  apply beq_false_of_ne
  intro h2
  exact h (UInt8.toNat_inj.1 (by omega))
theorem ZsE {w : ByteArray} (hw : w.size ≤ 1048576) (hN : 1048580 < N) (k : List V → Option R) : Zwg N w 47 k = k (Zay (ZaW w)) := by
 rw [ZoX]
 unfold ZkB
 refine Zff (l := fun n i => ZeH N w 47 _ n (Zay ((Zep 47 (bl w) i).1.map ba)) ((Zep 47 (bl w) i).2 : Int) (i : Int)) (len := w.size) (k1 := k (Zay (ZaW w))) ?_ ?_ (show w.size < N by omega)
 ·intro n i hi
  have hi' : i < (bl w).length := by rw [← ZaA]; exact hi
  have hle := Zg2 47 (bl w) i
  simp only [ZeH, ZcS, Zci hi, ZbQ w hi']
  rw [show (47 : Int) = ((47 : UInt8).toNat : Int) from rfl, Ztw, Zba (i := i) (by omega)]
  by_cases h : at_ (bl w) i = 47
  ·rw [decide_eq_true h]
   simp only [Zep, if_pos h]
   rw [if_pos ⟨by omega, by omega⟩, if_pos ⟨by omega, by omega⟩, if_pos (by rw [ZaO, List.length_map]; omega), Zch]
   simp only [Int.toNat_natCast, Zay, List.map_append, List.map_cons, List.map_nil]
  ·rw [decide_eq_false h]
   simp only [Zep, if_neg h]
 ·intro n
  have hle := Zg2 47 (bl w) w.size
  simp only [ZeH, ZcS, Int.lt_irrefl, decide_false]
  rw [if_pos ⟨by omega, by omega⟩, if_pos (by rw [ZaO, List.length_map]; omega), Zch]
  have := ZsL 47 (bl w)
  rw [← ZaA] at this
  unfold ZaW
  rw [← this, List.take_of_length_le (by rw [ZaA]; exact Nat.le_refl _)]
  simp only [Int.toNat_natCast, Zay, List.map_append, List.map_cons, List.map_nil]
theorem Zc6 {α : Type} [Inhabited α] (p : α → Bool) (l : List α) {i : Nat} (h : i < l.length) : (l.take (i + 1)).filter p = (l.take i).filter p ++ if p (at_ l i) then [at_ l i] else [] := by
 rw [List.take_succ_eq_append_getElem h, List.filter_append, ZbZ h]
 congr 1
 rw [List.filter_cons]
 split <;> rfl
theorem Zhw {w : ByteArray} (hw : w.size ≤ 1048576) (hN : 1048580 < N) (k : List V → Option R) : ZrS N w k = k (Zay (ZaL w)) := by
 rw [ZoG]
 unfold ZkJ
 rw [ZsE N hw hN, ZaO]
 have hl := Zf5 w
 refine Zff (l := fun n i => ZeJ N (Zay (ZaW w)) ((ZaW w).length : Int) _ n (Zay (((ZaW w).take i).filter fun p => !ZbD p)) (i : Int)) (len := (ZaW w).length) (k1 := k (Zay (ZaL w))) ?_ ?_ (show (ZaW w).length < N by omega)
 ·intro n i hi
  simp only [ZeJ, ZcR, Zci hi, Int.natCast_nonneg, if_true, Int.toNat_natCast, ZbC hi, Zae, ZbF]
  rw [Zba (i := i) (by omega), Zc6 _ _ hi]
  have hlf : (((ZaW w).take i).filter fun p => !ZbD p).length ≤ i := Nat.le_trans (List.length_filter_le _ _) (by rw [List.length_take]; omega)
  cases h : ZbD (at_ (ZaW w) i) with
  | true =>
   rw [show ((at_ (ZaW w) i).toList == (ByteArray.mk #[]).toList) = true from h]
   simp
  | false =>
   rw [show ((at_ (ZaW w) i).toList == (ByteArray.mk #[]).toList) = false from h, if_pos (by rw [ZaO]; omega)]
   simp [Zay]
 ·intro n
  simp only [ZeJ, ZcR, Int.lt_irrefl, decide_false]
  rw [List.take_of_length_le (Nat.le_refl _)]
  rfl
def Zbv (w : ByteArray) : Bool := (ZaL w).all Zcn && inR (w.size : Int) 1 60
theorem Zi4 {w : ByteArray} (h : ZhX w = true) : Zcn w = true := by
 unfold ZhX at h
 rw [beq_iff_eq, ByteArray.toList_eq, ByteArray.toList_eq] at h
 have : w = ba [46] := by rw [← Zi6 w, show bl w = _ from h]
 subst this
 decide
theorem ZuS {w : ByteArray} (h : ZbG w = true) : Zcn w = true := by
 unfold ZbG at h
 rw [beq_iff_eq, ByteArray.toList_eq, ByteArray.toList_eq] at h
 have : w = ba [46, 46] := by rw [← Zi6 w, show bl w = _ from h]
 subst this
 decide
theorem Zej {w : ByteArray} (hw : w.size ≤ 1048576) (hN : 1048580 < N) (k : Bool → Option R) : ZjL N w k = k (Zbv w) := by
 rw [ZpF]
 unfold ZkK
 rw [Zhw N hw hN, ZaO]
 have hl := Zc0 w
 refine (ZjS (l := fun n i => ZeO N w (Zay (ZaL w)) ((ZaL w).length : Int) (fun _ => k false) _ n (i : Int)) (len := (ZaL w).length) (p := fun i => Zcn (at_ (ZaL w) i)) (k0 := k false) (k1 := k (inR (w.size : Int) 1 60)) ?_ ?_ (show (ZaL w).length < N by omega)).trans ?_
 ·intro n i hi _
  have hsz : (at_ (ZaL w) i).size ≤ 1048576 := Nat.le_trans (ZeG (ZeC hi)) hw
  simp only [ZeO, ZcP, Zci hi, Int.natCast_nonneg, if_true, Int.toNat_natCast, ZbC hi, Zae, ZbF, Zyx N hsz (by omega : 1048576 < N)]
  rw [Zba (i := i) (by omega)]
  have h1 := @Zi4 (at_ (ZaL w) i)
  have h2 := @ZuS (at_ (ZaL w) i)
  unfold Zcs
  unfold ZhX ZbG at *
  generalize ((at_ (ZaL w) i).toList == (ByteArray.mk #[46]).toList) = b at *
  generalize ((at_ (ZaL w) i).toList == (ByteArray.mk #[46, 46]).toList) = c at *
  generalize Zcn (at_ (ZaL w) i) = a at *
  cases a <;> cases b <;> cases c <;> first | rfl | exact absurd (h1 rfl) (by decide) | exact absurd (h2 rfl) (by decide)
 ·intro _ n
  simp only [ZeO, ZcP, Int.lt_irrefl, decide_false, Zzv]
 ·unfold Zbv
  have e : (List.range' 0 (ZaL w).length).all (fun i => Zcn (at_ (ZaL w) i)) = (ZaL w).all Zcn := by
   rw [Bool.eq_iff_iff, ZdP, List.all_eq_true]
   exact ⟨fun h p hp => by
    obtain ⟨i, hi, rfl⟩ := List.getElem_of_mem hp
    rw [← ZbZ hi]
    exact h i hi, fun h i hi => h _ (ZeC hi)⟩
  rw [e]
  cases (ZaL w).all Zcn <;> rfl
theorem ZbX {w : ByteArray} (h : Zbv w = true) : 1 ≤ w.size ∧ w.size ≤ 60 := by
 unfold Zbv at h
 rw [Bool.and_eq_true, Zi7] at h
 omega
def Zxq (w : ByteArray) : Bool := Zbv w && (((at_ (bl w) 0).toNat : Int) == 47)
end
section
open Go
theorem ZdF (c : UInt8) : ∀ (l : List UInt8) (m : Nat), Lib.indexByte l c = (m : Int) → m < l.length ∧ ZaV c l = l.take m :: ZaV c (l.drop (m + 1))
 | [], m, h => by simp [Lib.indexByte] at h
 | b :: l, m, h => by
  unfold Lib.indexByte at h
  by_cases hb : b = c
  ·rw [if_pos (by simp [hb])] at h
   obtain rfl : m = 0 := by omega
   exact ⟨by simp, by rw [Zb0 hb]; rfl⟩
  ·rw [if_neg (by simp [hb])] at h
   have hge := Lib.indexByte_ge l c
   by_cases h1 : Lib.indexByte l c = -1
   ·rw [if_pos (by simp [h1])] at h; omega
   ·rw [if_neg (by simp [h1])] at h
    obtain ⟨m, rfl⟩ : ∃ k, m = k + 1 := ⟨m - 1, by omega⟩
    obtain ⟨h2, h3⟩ := ZdF c l m (by omega)
    refine ⟨by rw [List.length_cons]; omega, ?_⟩
    rw [ZbV hb, h3]
    rfl
theorem Zf2 (c : UInt8) : ∀ (l : List UInt8), Lib.indexByte l c = -1 → ZaV c l = [l]
 | [], h => rfl
 | b :: l, h => by
  unfold Lib.indexByte at h
  by_cases hb : b = c
  ·rw [if_pos (by simp [hb])] at h; omega
  ·rw [if_neg (by simp [hb])] at h
   have hge := Lib.indexByte_ge l c
   by_cases h1 : Lib.indexByte l c = -1
   ·rw [ZbV hb, Zf2 c l h1]; rfl
   ·rw [if_neg (by simp [h1])] at h; omega
def ZcK (l : List UInt8) : Nat → List UInt8
 | 0 => l
 | i + 1 => (ZcK l i).drop ((Lib.indexByte (ZcK l i) 47).toNat + 1)
theorem Zo7 (l : List UInt8) : ∀ i, i ≤ l.count 47 → ZaV 47 (ZcK l i) = (ZaV 47 l).drop i ∧ (i < l.count 47 → ∃ m : Nat, Lib.indexByte (ZcK l i) 47 = m)
  ∧ (ZcK l i).length ≤ l.length := by
 have idx : ∀ (r : List UInt8), 2 ≤ (ZaV 47 r).length → ∃ m : Nat, Lib.indexByte r 47 = m := fun r h => by
  have := Lib.indexByte_ge r 47
  by_cases h1 : Lib.indexByte r 47 = -1
  ·rw [Zf2 47 r h1] at h; simp at h
  ·exact ⟨(Lib.indexByte r 47).toNat, by omega⟩
 intro i
 induction i with
 | zero => exact fun _ => ⟨rfl, fun h => idx l (by rw [Zc3]; omega), Nat.le_refl _⟩
 | succ i ih =>
  intro hi
  obtain ⟨h1, h2, h3⟩ := ih (by omega)
  obtain ⟨m, hm⟩ := h2 (by omega)
  obtain ⟨h4, h5⟩ := ZdF 47 _ m hm
  have e : ZaV 47 (ZcK l (i + 1)) = (ZaV 47 l).drop (i + 1) := by
   have : (ZaV 47 (ZcK l i)).drop 1 = ZaV 47 (ZcK l (i + 1)) := by
    rw [h5]
    show _ = ZaV 47 ((ZcK l i).drop ((Lib.indexByte (ZcK l i) 47).toNat + 1))
    rw [hm]; rfl
   rw [← this, h1, List.drop_drop]
  refine ⟨e, fun h => idx _ (by rw [e, List.length_drop, Zc3]; omega), ?_⟩
  show ((ZcK l i).drop _).length ≤ _
  rw [List.length_drop]; omega
variable {R : Type} (N : Nat)
def sl : ByteArray := ByteArray.mk #[47]
theorem Zyp (w : ByteArray) (k : Int → Option R) : ZtZ N w (ByteArray.mk #[47]) k = k (Lib.indexByte (bl w) 47) := by
 rw [Zqm]
 unfold ZlH
 rw [Zqb]
 unfold ZlC
 show (match ((ByteArray.mk #[47]).toList == w.toList) with | true => k 0 | false => _) = _
 cases h : ((ByteArray.mk #[47]).toList == w.toList) with
 | true =>
  rw [beq_iff_eq, ByteArray.toList_eq, ByteArray.toList_eq] at h
  show k 0 = k (Lib.indexByte w.data.toList 47)
  rw [← h]; rfl
 | false =>
  show Zwk N w _ _ = _
  rw [Zpy]
  unfold ZjZ
  rw [Zp1]
  rfl
theorem Zxv (w : ByteArray) (k : Int → Option R) : Zuo N w (ByteArray.mk #[47]) k = k (((bl w).count 47 : Nat) : Int) := by
 rw [ZoY]
 unfold Zkl
 show Zw4 N w _ _ = _
 rw [Zps]
 rfl
theorem Zc1 (l : List ByteArray) : ZaN (Zay l) = true := by
 unfold ZaN
 rw [List.all_eq_true]
 intro v hv
 obtain ⟨s, _, rfl⟩ := List.mem_map.1 hv
 rfl
theorem ZoM (w : ByteArray) {i : Nat} (hi : i < (ZaW w).length) : (ZaV 47 (bl w)).drop i = bl (at_ (ZaW w) i) :: (ZaV 47 (bl w)).drop (i + 1) := by
 have hi' : i < (ZaV 47 (bl w)).length := by unfold ZaW at hi; rwa [List.length_map] at hi
 rw [List.drop_eq_getElem_cons hi', ZbZ hi]
 simp only [ZaW, List.getElem_map, ZfU]
theorem Zyq {w : ByteArray} (hw : w.size ≤ 1048576) (hN : 1048580 < N) (k0 : List V → Option R) (k1 : Nat → List V → Option R) :
  Zwc N w (ByteArray.mk #[47]) k0 k1 = k1 (ZaW w).length (Zay (ZaW w)) := by
 rw [ZpU]
 unfold Zks
 rw [Zov]
 unfold ZlJ
 let c := (bl w).count 47
 have hc : c ≤ w.size := by rw [ZaA]; exact List.count_le_length
 have hL : (ZaW w).length = c + 1 := by unfold ZaW; rw [List.length_map, Zc3]
 rw [show ((ByteArray.mk #[47]).toList == (ByteArray.mk #[]).toList) = false by rw [ByteArray.toList_eq, ByteArray.toList_eq]; rfl]
 show Zuo N w (ByteArray.mk #[47]) _ = _
 rw [Zxv]
 show _ = k1 (ZaW w).length (Zay (ZaW w))
 rw [Za5 (x := (w.size : Int) + 1) (by omega) (by omega), Za5 (x := (((bl w).count 47 : Nat) : Int) + 1) (by omega) (by omega)]
 have hif : (if (w.size : Int) + 1 < (((bl w).count 47 : Nat) : Int) + 1 then (w.size : Int) + 1 else (((bl w).count 47 : Nat) : Int) + 1) = ((c + 1 : Nat) : Int) := by
  rw [if_neg (by omega)]; rfl
 rw [hif, if_pos ⟨by omega, rfl, by omega⟩, Int.toNat_natCast, Za5 (x := ((c + 1 : Nat) : Int) - 1) (by omega) (by omega)]
 have hlim : ((c + 1 : Nat) : Int) - 1 = (c : Int) := by omega
 rw [hlim]
 let z : V := .str (ByteArray.mk #[])
 have hlen : (Zay (ZaW w)).length = c + 1 := by rw [ZaO, hL]
 rw [show List.replicate (c + 1) (V.str (ByteArray.mk #[])) = Ze0 (Zay (ZaW w)) z 0 by rw [Zq7, hlen]]
 refine Zff (l := fun n i => ZdO N (ByteArray.mk #[47]) 0 (c : Int) (c + 1) _ n (ba (ZcK (bl w) i)) (i : Int) (Ze0 (Zay (ZaW w)) z i)) (len := c) (k1 := k1 (ZaW w).length (Zay (ZaW w))) ?_ ?_ (show c < N by omega)
 ·intro n i hi
  obtain ⟨h1, h2, h3⟩ := Zo7 (bl w) i (by omega)
  obtain ⟨m, hm⟩ := h2 hi
  obtain ⟨h4, h5⟩ := ZdF 47 _ m hm
  have hi' : i < (ZaW w).length := by omega
  rw [h1, ZoM w hi'] at h5
  have hp : bl (at_ (ZaW w) i) = (ZcK (bl w) i).take m := (List.cons.inj h5).1
  have hsz : (ba (ZcK (bl w) i)).size = (ZcK (bl w) i).length := ZaA _
  rw [← ZaA] at h3
  simp only [ZdO, ZcE, Zci hi, Zyp, ZfU, hm]
  rw [decide_eq_false (by omega)]
  simp only
  rw [show (m : Int) + 0 = m by omega, Za5 (x := (m : Int)) (by omega) (by omega), if_pos ⟨by omega, by omega⟩, if_pos ⟨by omega, by omega⟩]
  rw [show ((ByteArray.mk #[47]).size : Int) = 1 from rfl, Zba (i := m) (by omega), Zba (i := i) (by omega)]
  simp only [Int.toNat_natCast, Nat.zero_add, Zl6 (Zay (ZaW w)) z (by rw [hlen]; omega : i < _)]
  have hput : ∀ b, Zb9 z 0 [.str b] = some (.str b) := fun b => rfl
  simp only [hput]
  rw [if_pos ⟨by omega, by omega⟩, Zch, Zch, ZfU, List.drop_zero, ← hp, Zi6, Zlh _ _ _ (by rw [hlen]; omega) (ZbC hi'),
   List.take_of_length_le (by rw [hsz]; exact Nat.le_refl _)]
  have hr : ZcK (bl w) (i + 1) = (ZcK (bl w) i).drop (m + 1) := by
   show (ZcK (bl w) i).drop ((Lib.indexByte (ZcK (bl w) i) 47).toNat + 1) = _
   rw [hm]; rfl
  rw [hr]
 ·intro n
  obtain ⟨h1, h2, h3⟩ := Zo7 (bl w) c (Nat.le_refl _)
  simp only [ZdO, ZcE, Int.lt_irrefl, decide_false]
  rw [if_pos ⟨by omega, by omega⟩]
  simp only [Int.toNat_natCast, Nat.zero_add, Zl6 (Zay (ZaW w)) z (by rw [hlen]; omega : c < _)]
  have hput : ∀ b, Zb9 z 0 [.str b] = some (.str b) := fun b => rfl
  simp only [hput]
  have hlast : nth (Zay (ZaW w)) c = some (.str (ba (ZcK (bl w) c))) := by
   rw [ZbC (by omega)]
   rw [ZoM w (by omega), List.drop_eq_nil_of_le (by rw [Zc3]; exact Nat.le_refl _)] at h1
   have h6 : ZaV 47 (ZcK (bl w) c) = [ZcK (bl w) c] := by
    apply Zf2
    have := Lib.indexByte_ge (ZcK (bl w) c) 47
    by_cases h7 : Lib.indexByte (ZcK (bl w) c) 47 = -1
    ·exact h7
    ·obtain ⟨m, hm⟩ : ∃ m : Nat, Lib.indexByte (ZcK (bl w) c) 47 = m := ⟨(Lib.indexByte (ZcK (bl w) c) 47).toNat, by omega⟩
     obtain ⟨_, h8⟩ := ZdF 47 _ m hm
     rw [h1] at h8
     exact absurd (List.cons.inj h8).2.symm (Zco 47 _)
   rw [h6] at h1
   rw [(List.cons.inj h1).1, Zi6]
  rw [Zlh _ _ _ (by rw [hlen]; omega) hlast, show Ze0 (Zay (ZaW w)) z (c + 1) = Zay (ZaW w) by rw [← hlen]; exact Zt2 _ _,
   Zba (i := c) (by omega), if_pos ⟨by omega, by omega⟩, Zc1, hL]
  rfl
def Zbx (L : List ByteArray) : List ByteArray := L.filter fun p => !ZbD p
def ZmD (L : List ByteArray) (j : Nat) : List ByteArray := Zbx (L.take j) ++ L.drop (Zbx (L.take j)).length
theorem ZgM (L : List ByteArray) (j : Nat) : (Zbx (L.take j)).length ≤ j := Nat.le_trans (List.length_filter_le _ _) (by rw [List.length_take]; omega)
theorem ZiX {L : List ByteArray} {j : Nat} (h : j ≤ L.length) : (ZmD L j).length = L.length := by
 have := ZgM L j
 unfold ZmD
 rw [List.length_append, List.length_drop]; omega
theorem Zyc {L : List ByteArray} {j : Nat} (h : j < L.length) : nth (Zay (ZmD L j)) j = some (.str (at_ L j)) := by
 have := ZgM L j
 rw [ZbC (by rw [ZiX (by omega)]; exact h), ZbZ (by rw [ZiX (by omega)]; exact h), ZbZ h]
 congr 2
 unfold ZmD
 rw [List.getElem_append_right (by omega), List.getElem_drop]
 congr 1
 omega
theorem Zvd {L : List ByteArray} {j : Nat} (h : j < L.length) (hp : ZbD (at_ L j) = false) : ZaM (Zay (ZmD L j)) (Zbx (L.take j)).length (.str (at_ L j)) = Zay (ZmD L (j + 1)) := by
 have h2 := ZgM L j
 have e : Zbx (L.take (j + 1)) = Zbx (L.take j) ++ [at_ L j] := by
  unfold Zbx
  rw [Zc6 _ _ h, hp]; rfl
 unfold Zay
 rw [Ztp V.str, Zbl]
 congr 1
 unfold ZmD
 rw [e, List.set_append_right _ _ (Nat.le_refl _), Nat.sub_self, List.length_append, List.append_assoc]
 congr 1
 have hd : (Zbx (L.take j)).length < L.length := by omega
 rw [List.drop_eq_getElem_cons hd]
 rfl
theorem Zsm {L : List ByteArray} {j : Nat} (h : j < L.length) (hp : ZbD (at_ L j) = true) : ZmD L (j + 1) = ZmD L j ∧ (Zbx (L.take (j + 1))).length = (Zbx (L.take j)).length := by
 have e : Zbx (L.take (j + 1)) = Zbx (L.take j) := by
  unfold Zbx
  rw [Zc6 _ _ h, hp]
  exact List.append_nil _
 exact ⟨by unfold ZmD; rw [e], by rw [e]⟩
theorem ZeE (v : Bool) (s : S) (L : List ByteArray) : ZaX (ZaY v s 11) (Zay L) = some (Zay L) :=
 Zd4 fun u hu => by obtain ⟨b, _, rfl⟩ := List.mem_map.1 hu; rfl
theorem Zh9 (L : List ByteArray) : (Zay L).all V.plain = true := by
 rw [List.all_eq_true]; intro u hu; obtain ⟨b, _, rfl⟩ := List.mem_map.1 hu; rfl
theorem ZtQ (L : List ByteArray) : (Zay L).map V.lent = Zay L := by
 unfold Zay; rw [List.map_map]; rfl
theorem ZkH {L : List ByteArray} (hl : L.length ≤ 1048577) (hN : 1048580 < N) (f : Fl) (k : Int → Option R) :
  ZwY N (Zay L) f k = k (Zd2 (fun i => ZbD (at_ L i)) L.length) := by
 rw [Zo0]
 unfold Zmk
 rw [ZaO]
 refine (Zdr (β := Nat) (l := fun n i => ZeP N (Zay L) f (L.length : Int) _ _ n (i : Int)) (len := L.length) (q := fun i => if ZbD (at_ L i) then some i else none) (kb := fun i => k (i : Int)) (k1 := k (-1)) ?_ ?_ (show L.length < N by omega)).trans ?_
 ·intro n i hi _
  simp only [ZeP, ZcN, Zci hi, Int.natCast_nonneg, if_true, Int.toNat_natCast, ZbC hi, Zae, ZbF]
  rw [ZiV]
  unfold Zim
  rw [Zba (i := i) (by omega), show ((at_ L i).toList == (ByteArray.mk #[]).toList) = ZbD (at_ L i) from rfl]
  cases ZbD (at_ L i) <;> rfl
 ·intro _ n
  simp only [ZeP, ZcN, Int.lt_irrefl, decide_false]
 ·unfold Zd2
  generalize (List.range' 0 L.length).findSome? _ = o
  cases o <;> rfl
theorem ZrC {q : Nat → Bool} {len i : Nat} (h : (List.range' 0 len).findSome? (fun i => if q i then some i else none) = some i) : i < len ∧ q i = true ∧ ∀ j, j < i → q j = false := by
 have : ∀ (d a : Nat), (List.range' a d).findSome? (fun i => if q i then some i else none) = some i → i < a + d ∧ a ≤ i ∧ q i = true ∧ ∀ j, a ≤ j → j < i → q j = false := by
  intro d
  induction d with
  | zero => intro a h; cases h
  | succ d ih =>
   intro a h
   rw [List.range'_succ, List.findSome?_cons] at h
   cases hq : q a with
   | true =>
    rw [hq] at h
    obtain rfl : a = i := by simpa using h
    exact ⟨by omega, Nat.le_refl _, hq, fun j h1 h2 => by omega⟩
   | false =>
    rw [hq] at h
    obtain ⟨h1, h2, h3, h4⟩ := ih (a + 1) h
    refine ⟨by omega, by omega, h3, fun j h5 h6 => ?_⟩
    rcases Nat.lt_or_ge a j with h7 | h7
    ·exact h4 j h7 h6
    ·obtain rfl : a = j := by omega
     exact hq
 obtain ⟨h1, _, h2, h3⟩ := this len 0 h
 exact ⟨by omega, h2, fun j hj => h3 j (Nat.zero_le _) hj⟩
theorem ZiZ {L : List ByteArray} (hl : L.length ≤ 1048577) (hN : 1048580 < N) (k : Nat → List V → Option R) :
  ∃ es : List V, Zw8 N L.length (Zay L) k = k (Zbx L).length (Zay (Zbx L) ++ es) ∧ ZaN (Zay (Zbx L) ++ es) = true := by
 rw [ZpY]
 unfold Zlx
 simp only [List.drop_zero]
 rw [List.take_of_length_le (by rw [ZaO]; exact Nat.le_refl _)]
 simp only [ZeE]
 rw [ZtQ, ZkH N hl hN, ZaO, Nat.zero_add]
 simp only [Nat.le_refl, decide_true, Zaj]
 unfold Zd2
 cases h : (List.range' 0 L.length).findSome? (fun i => if ZbD (at_ L i) = true then some i else none) with
 | none =>
  have h2 := Zf1.1 h
  have e : Zbx L = L := by
   unfold Zbx
   rw [List.filter_eq_self]
   intro p hp
   obtain ⟨i, hi, rfl⟩ := List.getElem_of_mem hp
   have := h2 i hi
   rw [ZbZ hi] at this
   cases he : ZbD L[i] with
   | true => rw [he] at this; simp at this
   | false => rfl
  refine ⟨[], ?_, ?_⟩
  ·rw [e, List.append_nil, Zc1]; rfl
  ·rw [List.append_nil, Zc1]
 | some i =>
  obtain ⟨hi, hq, hlt⟩ := ZrC h
  have hne : ((i : Int) == -1) = false := beq_false_of_ne (by omega)
  rw [hne]
  have e0 : Zbx (L.take (i + 1)) = L.take i := by
   have e1 : Zbx (L.take i) = L.take i := by
    unfold Zbx
    rw [List.filter_eq_self]
    intro p hp
    obtain ⟨j, hj, rfl⟩ := List.getElem_of_mem hp
    rw [List.length_take] at hj
    have := hlt j (by omega)
    rw [ZbZ (by omega)] at this
    simp [this]
   rw [← e1]
   unfold Zbx
   rw [Zc6 _ _ hi, hq]
   exact List.append_nil _
  have hl0 : (Zbx (L.take (i + 1))).length = i := by rw [e0, List.length_take]; omega
  have hs0 : ZmD L (i + 1) = L := by unfold ZmD; rw [hl0, e0, List.take_append_drop]
  refine ⟨?es, ?_, ?_⟩
  case es => exact List.replicate (L.length - (Zbx L).length) (.str (ByteArray.mk #[]))
  ·have hfl : (Zbx L).length ≤ L.length := List.length_filter_le _ _
   have hfin : ZmD L L.length = Zbx L ++ L.drop (Zbx L).length := by unfold ZmD; rw [List.take_of_length_le (Nat.le_refl _)]
   have hfill : ZeY (Zay (Zbx L ++ L.drop (Zbx L).length)) (Zbx L).length (L.length - (Zbx L).length) (.str (ByteArray.mk #[])) = Zay (Zbx L) ++ List.replicate (L.length - (Zbx L).length) (.str (ByteArray.mk #[])) := by
    unfold ZeY Zay
    rw [List.map_append, List.take_append_of_le_length (by rw [List.length_map]; exact Nat.le_refl _), List.take_of_length_le (by rw [List.length_map]; exact Nat.le_refl _),
     List.drop_eq_nil_of_le (by simp only [List.length_append, List.length_map, List.length_drop]; omega), List.append_nil]
   have hnr : ZaN (Zay (Zbx L) ++ List.replicate (L.length - (Zbx L).length) (.str (ByteArray.mk #[]))) = true := by
    unfold ZaN
    rw [List.all_append]
    have h1 := Zc1 (Zbx L)
    unfold ZaN at h1
    rw [h1, Bool.true_and, List.all_eq_true]
    intro v hv
    rw [List.eq_of_mem_replicate hv]; rfl
   have hput : ∀ b : ByteArray, ∀ u : ByteArray, Zb9 (.str u) 0 [.str b] = some (.str b) := fun b u => rfl
   show ZdZ N L.length _ N (i : Int) (IntKind.i64.wrap ((i : Int) + 1)) (Zay L) = _
   rw [Zba (i := i) (by omega)]
   have hrun := Zml (R := R) (len := L.length) (k1 := k (Zbx L).length (Zay (Zbx L) ++ List.replicate (L.length - (Zbx L).length) (.str (ByteArray.mk #[]))))
    (l := fun n j => ZdZ N L.length (fun x17 e18 => (if (0 : Int) ≤ x17 ∧ x17 ≤ (L.length : Int) then Zaj (decide ((0 + (x17 : Int).toNat) + (L.length - (x17 : Int).toNat) ≤ e18.length)) ((if (0 : Int) ≤ x17 ∧ x17 ≤ (L.length : Int) then Zaj (ZaN (ZeY e18 (0 + (x17 : Int).toNat) (L.length - (x17 : Int).toNat) (.str (ByteArray.mk #[]))) && true) (k ((x17 : Int).toNat) (ZeY e18 (0 + (x17 : Int).toNat) (L.length - (x17 : Int).toNat) (.str (ByteArray.mk #[])))) else none)) else none)) n ((Zbx (L.take j)).length : Int) (j : Int) (Zay (ZmD L j)))
    (fun n j hj => by
     have hf := ZgM L j
     simp only [ZdZ, ZcG, Zci hj]
     rw [if_pos ⟨by omega, by omega⟩]
     simp only [Int.toNat_natCast, Nat.zero_add, Zyc hj]
     show Zuj N (at_ L j) _ = _
     rw [ZiV]
     unfold Zim
     rw [show ((at_ L j).toList == (ByteArray.mk #[]).toList) = ZbD (at_ L j) from rfl]
     cases he : ZbD (at_ L j) with
     | true =>
      obtain ⟨h1, h2⟩ := Zsm hj he
      simp only [Bool.not_true]
      rw [Zba (i := j) (by omega), h1, h2]
     | false =>
      have e : (Zbx (L.take (j + 1))).length = (Zbx (L.take j)).length + 1 := by
       unfold Zbx
       rw [Zc6 _ _ hj, he, List.length_append]; rfl
      simp only [Bool.not_false]
      rw [if_pos ⟨by omega, by omega⟩, ZbC (by rw [ZiX (by omega)]; omega)]
      simp only [hput]
      rw [Zvd hj he, Zba (by omega), Zba (by omega), e])
    (fun n => by
     simp only [ZdZ, ZcG, Int.lt_irrefl, decide_false]
     rw [List.take_of_length_le (Nat.le_refl _), hfin]
     rw [if_pos ⟨by omega, by omega⟩, if_pos ⟨by omega, by omega⟩]
     simp only [Int.toNat_natCast, Nat.zero_add, hfill, hnr]
     rw [decide_eq_true (by rw [ZaO, List.length_append, List.length_drop]; omega)]
     rfl) (L.length - (i + 1)) N (i + 1) (by omega) (by omega)
   rw [hl0, hs0] at hrun
   exact hrun
  ·unfold ZaN
   rw [List.all_append]
   have h1 := Zc1 (Zbx L)
   unfold ZaN at h1
   rw [h1, Bool.true_and, List.all_eq_true]
   intro v hv
   rw [List.eq_of_mem_replicate hv]; rfl
theorem ZhK {w : ByteArray} (hw : w.size ≤ 1048576) (hN : 1048580 < N) (k : List V → Option R) : ZqJ N w k = k (Zay (ZaL w)) := by
 rw [ZpZ]
 unfold Zle
 rw [Zyq N hw hN, Zc1]
 simp only [Bool.true_and, Bool.and_true, Zaj]
 have hl := Zf5 w
 obtain ⟨es, he, hr⟩ := ZiZ N (L := ZaW w) (by omega) hN (fun k4 e5 => (match ZaX (ZaY false [some ⟨e5, 1, 9, 0⟩] 11) ((e5.drop 0).take k4) with
   | some e6 => Zaj (decide (0 + k4 ≤ e5.length)) (Zaj (e6.all V.plain) (k e6))
   | none => none))
 refine he.trans ?_
 have e1 : ((Zay (Zbx (ZaW w)) ++ es).drop 0).take (Zbx (ZaW w)).length = Zay (Zbx (ZaW w)) := by
  rw [List.drop_zero, List.take_append_of_le_length (by rw [ZaO]; exact Nat.le_refl _), List.take_of_length_le (by rw [ZaO]; exact Nat.le_refl _)]
 simp only [e1, ZeE, Zh9, Zaj]
 rw [decide_eq_true (by rw [List.length_append, ZaO]; omega)]
 rfl
theorem Zh0 {L : List ByteArray} (hl : L.length ≤ 1048577) (hz : ∀ p ∈ L, p.size ≤ 1048576) (hN : 1048580 < N) (f : Fl) (k : Bool → Option R) :
  Zvs N (Zay L) f k = k (!L.all Zcn) := by
 rw [ZpW]
 unfold Zj0
 rw [Zqd]
 unfold Zj1
 rw [ZaO]
 refine (Zdr (β := Nat) (l := fun n i => ZeT N (Zay L) _ (L.length : Int) _ _ n (i : Int)) (len := L.length) (q := fun i => if !Zcn (at_ L i) then some i else none) (kb := fun i => k (decide ((i : Int) ≥ 0))) (k1 := k (decide ((-1 : Int) ≥ 0))) ?_ ?_ (show L.length < N by omega)).trans ?_
 ·intro n i hi _
  simp only [ZeT, ZcQ, Zci hi, Int.natCast_nonneg, if_true, Int.toNat_natCast, ZbC hi, Zae, ZbF]
  rw [ZoF]
  unfold Zlu
  rw [Zpb N (hz _ (ZeC hi)) (by omega), Zba (i := i) (by omega)]
  cases Zcn (at_ L i) <;> rfl
 ·intro _ n
  simp only [ZeT, ZcQ, Int.lt_irrefl, decide_false]
 ·have := ZdY (q := fun i => !Zcn (at_ L i)) (len := L.length)
  unfold Zd2 at this
  simp only [Bool.not_not] at this
  have e : (List.range' 0 L.length).all (fun i => Zcn (at_ L i)) = L.all Zcn := by
   rw [Bool.eq_iff_iff, ZdP, List.all_eq_true]
   exact ⟨fun h p hp => by
    obtain ⟨i, hi, rfl⟩ := List.getElem_of_mem hp
    rw [← ZbZ hi]
    exact h i hi, fun h i hi => h _ (ZeC hi)⟩
  rw [← e, ← this]
  generalize (List.range' 0 L.length).findSome? _ = o
  cases o <;> rfl
theorem Zck {w : ByteArray} (hw : w.size ≤ 1048576) (hN : 1048580 < N) (k : Bool → Option R) : Zhm N w k = k (Zbv w) := by
 rw [ZoU]
 unfold Zj3
 rw [Zpg]
 unfold Zlv Zbv
 rw [show (w.toList == (ByteArray.mk #[]).toList) = ZbD w from rfl, ZcA, ZhK N hw hN]
 have hl := Zc0 w
 rw [Zh0 N (by omega) (fun p hp => Nat.le_trans (ZeG hp) hw) hN]
 unfold inR
 by_cases h1 : w.size = 0
 ·rw [decide_eq_true h1, decide_eq_false (p := 1 ≤ (w.size : Int)) (by omega), Bool.false_and, Bool.and_false]
  cases decide ((w.size : Int) ≤ 60) <;> rfl
 ·rw [decide_eq_false h1, decide_eq_true (p := 1 ≤ (w.size : Int)) (by omega), Bool.true_and]
  cases decide ((w.size : Int) ≤ 60) <;> cases (ZaL w).all Zcn <;> rfl
end
section
open Go
variable {R : Type} (N : Nat)
def Zbf (root : Bool) (xs : List ByteArray) (p : ByteArray) : List ByteArray :=
 if ZhX p then xs else if ZbG p then (if decide (0 < xs.length) && !ZbG (at_ xs (xs.length - 1)) then xs.take (xs.length - 1) else if root then xs else xs ++ [p]) else xs ++ [p]
def Zcb (root : Bool) (ps : List ByteArray) : List ByteArray := ps.foldl (Zbf root) []
theorem Zgb (root : Bool) (xs : List ByteArray) (p : ByteArray) : (Zbf root xs p).length ≤ xs.length + 1 := by
 unfold Zbf
 split
 ·omega
 ·split
  ·split
   ·rw [List.length_take]; omega
   ·split <;> simp
  ·simp
theorem ZoH (es : List V) (ver : Nat) : Za9 [some ⟨[], 1, 9, 0⟩, some ⟨es, 1, 9, ver⟩] 1 ver = some ⟨es, 1, 9, ver⟩ := by simp [Za9, nth]
theorem Zdg (xs : List ByteArray) (p : ByteArray) : Zay xs ++ [V.str p] = Zay (xs ++ [p]) := by simp [Zay]
theorem Zhp (xs : List ByteArray) (n : Nat) : Zay (xs.take n) = (Zay xs).take n := by simp [Zay, List.map_take]
theorem Zeg (n : Nat) : Nat.beq n n = true := Nat.beq_refl n
theorem ZnC {w : ByteArray} (h0 : 0 < (bl w).length) {ps : List ByteArray} (hps : ps.length ≤ 1048577) {i : Nat} (hi : i < ps.length) {xs : List ByteArray} {es : List V} {ver : Nat} (hx : es.take xs.length = Zay xs) (hl : xs.length ≤ es.length) (hxi : xs.length ≤ i)
  (nx : Nat → Nat → Int → Ob → Option R) (k0 : Nat → Nat → Ob → Option R) :
  ∃ es' ver', es'.take (Zbf ((((at_ (bl w) 0).toNat : Nat) : Int) == 47) xs (at_ ps i)).length = Zay (Zbf ((((at_ (bl w) 0).toNat : Nat) : Int) == 47) xs (at_ ps i)) ∧ (Zbf ((((at_ (bl w) 0).toNat : Nat) : Int) == 47) xs (at_ ps i)).length ≤ es'.length ∧
   Zcj N w (Zay ps) (ps.length : Int) nx ver xs.length (i : Int) ⟨es, 1, 9, ver⟩ k0 = nx ver' (Zbf ((((at_ (bl w) 0).toNat : Nat) : Int) == 47) xs (at_ ps i)).length ((i + 1 : Nat) : Int) ⟨es', 1, 9, ver'⟩ := by
 unfold Zcj
 simp only [Zci hi, Int.natCast_nonneg, if_true, Int.toNat_natCast, ZbC hi, Zae, ZbF, Zba (i := i) (by omega)]
 have hb := ZbQ (R := R) w (i := 0) h0
 simp only [Int.ofNat_zero, Int.natCast_zero] at hb
 have app : ∃ es', es' = es.take xs.length ++ [V.str (at_ ps i)] ∧ es'.take (xs ++ [at_ ps i]).length = Zay (xs ++ [at_ ps i]) ∧ (xs ++ [at_ ps i]).length ≤ es'.length := by
  refine ⟨_, rfl, ?_, ?_⟩
  ·rw [hx, Zdg, List.take_of_length_le]
   rw [ZaO]; exact Nat.le_refl _
  ·rw [hx, Zdg, ZaO]; exact Nat.le_refl _
 have happ : (match Za9 [some ⟨[], 1, 9, 0⟩, some ⟨es, 1, 9, ver⟩] 1 ver with
   | some ob48 => (if xs.length ≤ ob48.es.length then (match Za9 [some ⟨[], 1, 9, 0⟩, some { ob48 with es := (ob48.es.take xs.length) }] 1 ver with
    | some ob49 => Zaj (Nat.beq ob49.elem 9) ((if True ∧ xs.length = ob49.es.length ∧ (xs.length + 1) * 16 ≤ 140737488355328 ∧ 0 < 1 then nx (ver + 1) (xs.length + 1) ((i + 1 : Nat) : Int) ({ ob49 with es := (ob49.es ++ ([.str (at_ ps i)] : List V)), ver := (ver + 1) }) else none))
    | none => none) else none)
   | none => none) = nx (ver + 1) (xs ++ [at_ ps i]).length ((i + 1 : Nat) : Int) ⟨es.take xs.length ++ [V.str (at_ ps i)], 1, 9, ver + 1⟩ := by
  simp only [ZoH, if_pos hl, Zeg, Zaj, List.length_take, Nat.min_eq_left hl]
  rw [if_pos ⟨trivial, trivial, by omega, by omega⟩]
  simp
 obtain ⟨es1, he1, ha1, ha2⟩ := app
 unfold Zbf
 cases hd : ZhX (at_ ps i) with
 | true =>
  unfold ZhX at hd
  rw [hd]
  exact ⟨es, ver, hx, hl, rfl⟩
 | false =>
  unfold ZhX at hd
  rw [hd]
  simp only [Bool.false_eq_true, if_false]
  cases hdd : ZbG (at_ ps i) with
  | false =>
   unfold ZbG at hdd
   rw [hdd]
   simp only [Bool.false_eq_true, if_false]
   refine ⟨es1, ver + 1, ha1, ha2, ?_⟩
   rw [he1]
   exact happ
  | true =>
   unfold ZbG at hdd
   rw [hdd]
   simp only [if_true]
   have hroot : ∃ es' ver', es'.take ((if ((((at_ (bl w) 0).toNat : Nat) : Int) == 47) = true then xs else xs ++ [at_ ps i])).length = Zay (if ((((at_ (bl w) 0).toNat : Nat) : Int) == 47) = true then xs else xs ++ [at_ ps i]) ∧
     (if ((((at_ (bl w) 0).toNat : Nat) : Int) == 47) = true then xs else xs ++ [at_ ps i]).length ≤ es'.length ∧
     (Zcd w 0 fun n35 => (match (n35 == 47) with
       | true => nx ver xs.length ((i + 1 : Nat) : Int) ⟨es, 1, 9, ver⟩
       | false => (match Za9 [some ⟨[], 1, 9, 0⟩, some ⟨es, 1, 9, ver⟩] 1 ver with
   | some ob48 => (if xs.length ≤ ob48.es.length then (match Za9 [some ⟨[], 1, 9, 0⟩, some { ob48 with es := (ob48.es.take xs.length) }] 1 ver with
    | some ob49 => Zaj (Nat.beq ob49.elem 9) ((if True ∧ xs.length = ob49.es.length ∧ (xs.length + 1) * 16 ≤ 140737488355328 ∧ 0 < 1 then nx (ver + 1) (xs.length + 1) ((i + 1 : Nat) : Int) ({ ob49 with es := (ob49.es ++ ([.str (at_ ps i)] : List V)), ver := (ver + 1) }) else none))
    | none => none) else none)
   | none => none))) = nx ver' (if ((((at_ (bl w) 0).toNat : Nat) : Int) == 47) = true then xs else xs ++ [at_ ps i]).length ((i + 1 : Nat) : Int) ⟨es', 1, 9, ver'⟩ := by
    rw [hb]
    cases hr : ((((at_ (bl w) 0).toNat : Nat) : Int) == 47) with
    | true => exact ⟨es, ver, hx, hl, rfl⟩
    | false =>
     simp only [Bool.false_eq_true, if_false]
     exact ⟨es1, ver + 1, ha1, ha2, by rw [he1]; exact happ⟩
   by_cases hn : 0 < xs.length
   ·have h1 : decide ((xs.length : Int) > 0) = true := decide_eq_true (by omega)
    have h2 : IntKind.i64.wrap ((xs.length : Int) - 1) = ((xs.length - 1 : Nat) : Int) := by
     rw [Za5 (by omega) (by omega)]; omega
    have h3 : nth es (0 + (xs.length - 1)) = some (.str (at_ xs (xs.length - 1))) := by
     rw [Nat.zero_add]
     have : nth (es.take xs.length) (xs.length - 1) = some (.str (at_ xs (xs.length - 1))) := by rw [hx, ZbC (by omega)]
     exact (Zb6 this).1
    rw [h1]
    have hi1 : (0 : Int) ≤ ((xs.length - 1 : Nat) : Int) ∧ ((xs.length - 1 : Nat) : Int) < (xs.length : Int) := ⟨Int.natCast_nonneg _, by omega⟩
    have hi2 : (0 : Int) ≤ ((xs.length - 1 : Nat) : Int) ∧ ((xs.length - 1 : Nat) : Int) ≤ (xs.length : Int) := ⟨Int.natCast_nonneg _, by omega⟩
    simp only [ZoH, Zeg, Zaj, h2, Int.toNat_natCast, h3, if_pos hi1, if_pos hi2, V.cells, List.drop_zero, ZdJ, ZbF]
    have hdec : decide (0 < xs.length) = true := decide_eq_true hn
    rw [hdec]
    cases hq : ZbG (at_ xs (xs.length - 1)) with
    | false =>
     unfold ZbG at hq
     rw [hq]
     simp only [Bool.not_false, Bool.and_self, if_true]
     refine ⟨es, ver, ?_, ?_, ?_⟩
     ·rw [List.length_take, Nat.min_eq_left (by omega), Zhp, ← hx, List.take_take, Nat.min_eq_left (by omega)]
     ·rw [List.length_take]; omega
     ·rw [List.length_take, Nat.min_eq_left (by omega)]
    | true =>
     unfold ZbG at hq
     rw [hq]
     simp only [Bool.not_true, Bool.and_false, Bool.false_eq_true, if_false]
     simp only [ZoH] at hroot
     exact hroot
   ·have h1 : decide ((xs.length : Int) > 0) = false := decide_eq_false (by omega)
    rw [h1]
    have hdec : decide (0 < xs.length) = false := decide_eq_false hn
    rw [hdec]
    simp only [Bool.false_and, Bool.false_eq_true, if_false]
    exact hroot
theorem Zhx {w : ByteArray} (hw : w.size ≤ 1048576) (h0 : 0 < w.size) (hN : 1048580 < N) (k : List V → Option R) :
  ZrH N w k = k (Zay (Zcb ((((at_ (bl w) 0).toNat : Nat) : Int) == 47) (ZaL w))) := by
 rw [ZoW]
 unfold Zk1
 rw [Zhw N hw hN, ZaO]
 have hpl := Zc0 w
 generalize hps : ZaL w = ps at hpl
 have hb0 : 0 < (bl w).length := by rw [← ZaA]; exact h0
 have key : ∀ (d n i : Nat) (xs : List ByteArray) (es : List V) (ver : Nat), i + d = ps.length → d < n → es.take xs.length = Zay xs → xs.length ≤ es.length → xs.length ≤ i →
   ZdT N w (Zay ps) (ps.length : Int) (fun k50 k51 O52 => (match Za9 [some ⟨[], 1, 9, 0⟩, some O52] 1 k50 with
  | some ob53 => (match ZaX (ZaY false [some ⟨[], 1, 9, 0⟩, some O52] 11) ((ob53.es.drop 0).take k51) with
   | some e54 => Zaj (decide (0 + k51 ≤ ob53.es.length)) (Zaj (e54.all V.plain) ((match Nat.beq ob53.esz 1 with
    | true => k e54
    | false => none)))
   | none => none)
  | none => none)) n ver xs.length (i : Int) ⟨es, 1, 9, ver⟩ = k (Zay ((ps.drop i).foldl (Zbf ((((at_ (bl w) 0).toNat : Nat) : Int) == 47)) xs)) := by
  intro d
  induction d with
  | zero =>
   intro n i xs es ver hi hn hx hl hxi
   obtain ⟨n, rfl⟩ : ∃ m, n = m + 1 := ⟨n - 1, by omega⟩
   obtain rfl : i = ps.length := by omega
   simp only [ZdT, Zcj]
   rw [show decide ((ps.length : Int) < (ps.length : Int)) = false from decide_eq_false (by omega)]
   simp only [ZoH, List.drop_zero, hx, ZeE, Nat.zero_add, decide_eq_true hl, Zaj, Zh9, Zeg, List.drop_length, List.foldl_nil]
  | succ d ih =>
   intro n i xs es ver hi hn hx hl hxi
   obtain ⟨n, rfl⟩ : ∃ m, n = m + 1 := ⟨n - 1, by omega⟩
   have hlt : i < ps.length := by omega
   rw [ZdT]
   obtain ⟨es', ver', q1, q2, q3⟩ := ZnC N hb0 (by omega) hlt hx hl hxi (fun k_5 k_6 x_4 O_9 => ZdT N w (Zay ps) (ps.length : Int) (fun k50 k51 O52 => (match Za9 [some ⟨[], 1, 9, 0⟩, some O52] 1 k50 with
  | some ob53 => (match ZaX (ZaY false [some ⟨[], 1, 9, 0⟩, some O52] 11) ((ob53.es.drop 0).take k51) with
   | some e54 => Zaj (decide (0 + k51 ≤ ob53.es.length)) (Zaj (e54.all V.plain) ((match Nat.beq ob53.esz 1 with
    | true => k e54
    | false => none)))
   | none => none)
  | none => none)) n k_5 k_6 x_4 O_9) (fun k50 k51 O52 => (match Za9 [some ⟨[], 1, 9, 0⟩, some O52] 1 k50 with
  | some ob53 => (match ZaX (ZaY false [some ⟨[], 1, 9, 0⟩, some O52] 11) ((ob53.es.drop 0).take k51) with
   | some e54 => Zaj (decide (0 + k51 ≤ ob53.es.length)) (Zaj (e54.all V.plain) ((match Nat.beq ob53.esz 1 with
    | true => k e54
    | false => none)))
   | none => none)
  | none => none))
   rw [q3, ih n (i + 1) _ es' ver' (by omega) (by omega) q1 q2 (by have := Zgb ((((at_ (bl w) 0).toNat : Nat) : Int) == 47) xs (at_ ps i); omega)]
   have hdr : ps.drop i = at_ ps i :: ps.drop (i + 1) := by
    rw [List.drop_eq_getElem_cons hlt]
    congr 1
    exact (ZbZ hlt).symm
   rw [hdr, List.foldl_cons]
 exact key ps.length N 0 [] [] 0 (by omega) (by omega) rfl (Nat.le_refl 0) (Nat.le_refl 0)
end
section
open Go
variable {R : Type} (N : Nat)
theorem Zhq (c : UInt8) (a b : List UInt8) : ZaV c (a ++ c :: b) = ZaV c a ++ ZaV c b := by
 induction a with
 | nil => rw [List.nil_append, Zb0 rfl]; rfl
 | cons x a ih =>
  rw [List.cons_append]
  by_cases h : x = c
  ·rw [Zb0 h, Zb0 h, ih, List.cons_append]
  ·rw [ZbV h, ZbV h, ih]
   cases hq : ZaV c a with
   | nil => exact absurd hq (Zco c a)
   | cons p ps => simp [ZvW]
theorem Zfv (c : UInt8) : ∀ (b : List UInt8), (∀ x ∈ b, x ≠ c) → ZaV c b = [b]
 | [], _ => rfl
 | x :: b, h => by
  rw [ZbV (h x (by simp)), Zfv c b fun y hy => h y (by simp [hy])]
  rfl
def ZcV (l : List UInt8) : Nat → Int
 | 0 => -1
 | n + 1 => if at_ l n = 47 then (n : Int) else ZcV l n
theorem Zec (l : List UInt8) : ∀ n, (ZcV l n = -1 ∧ ∀ j, j < n → at_ l j ≠ 47) ∨ ∃ m : Nat, ZcV l n = (m : Int) ∧ m < n ∧ at_ l m = 47 ∧ ∀ j, m < j → j < n → at_ l j ≠ 47
 | 0 => .inl ⟨rfl, fun j hj => by omega⟩
 | n + 1 => by
  unfold ZcV
  split
  ·rename_i h
   exact .inr ⟨n, rfl, by omega, h, fun j h1 h2 => by omega⟩
  ·rename_i h
   rcases Zec l n with ⟨h1, h2⟩ | ⟨m, h1, h2, h3, h4⟩
   ·refine .inl ⟨h1, fun j hj => ?_⟩
    by_cases hjn : j = n
    ·subst hjn; exact h
    ·exact h2 j (by omega)
   ·refine .inr ⟨m, h1, by omega, h3, fun j hj1 hj2 => ?_⟩
    by_cases hjn : j = n
    ·subst hjn; exact h
    ·exact h4 j hj1 (by omega)
theorem ZBa {b : UInt8} : ((b.toNat : Int) == 47) = decide (b = 47) := by
 have := Ztw (b := b) (c := 47)
 exact this
theorem Zny {w : ByteArray} (hw : w.size ≤ 1048576) (hN : 1048580 < N) (k : Int → Option R) : Zvr N w 47 k = k (ZcV (bl w) (bl w).length) := by
 rw [Zp9]
 unfold Zlm
 rw [ZpV]
 unfold ZlG
 have key : ∀ (m n : Nat), m ≤ (bl w).length → m < n → ZeN N w 47 (fun x3 => k x3) (fun (_ : Unit) => k (-1)) n ((m : Int) - 1) = k (ZcV (bl w) m) := by
  intro m
  induction m with
  | zero =>
   intro n _ hn
   obtain ⟨n, rfl⟩ : ∃ q, n = q + 1 := ⟨n - 1, by omega⟩
   rw [ZeN, ZcF, decide_eq_false (by omega)]
   rfl
  | succ m ih =>
   intro n hm hn
   obtain ⟨n, rfl⟩ : ∃ q, n = q + 1 := ⟨n - 1, by omega⟩
   have e : (((m + 1 : Nat) : Int) - 1) = (m : Int) := by omega
   rw [ZeN, ZcF, e, decide_eq_true (by omega)]
   simp only
   rw [ZbQ w (by omega), ZBa, ZcV]
   by_cases h : at_ (bl w) m = 47
   ·rw [decide_eq_true h, if_pos h]
   ·rw [decide_eq_false h, if_neg h]
    simp only
    have hs := ZaA w
    rw [Za5 (by omega) (by omega)]
    exact ih n (by omega) (by omega)
 have hs := ZaA w
 rw [Za5 (by omega) (by omega), hs]
 exact key (bl w).length N (Nat.le_refl _) (by omega)
theorem ZAW {l : List UInt8} {n i : Nat} (h : i < n) : at_ (l.take n) i = at_ l i := by
 unfold at_
 rw [List.getD_eq_getElem?_getD, List.getD_eq_getElem?_getD, List.getElem?_take, if_pos h]
end
section
open Go
variable {R : Type} (N : Nat)
def ZC4 (w : ByteArray) : ByteArray := ba ((bl w).drop ((ZcV (bl w) (bl w).length).toNat + 1))
theorem Zyz {w : ByteArray} (h : Zxq w = true) : at_ (bl w) 0 = 47 ∧ 1 ≤ w.size ∧ w.size ≤ 60 := by
 unfold Zxq at h
 rw [Bool.and_eq_true] at h
 have h1 := ZbX h.1
 have h2 := h.2
 rw [ZBa] at h2
 exact ⟨of_decide_eq_true h2, h1⟩
theorem ZyP {w : ByteArray} (h : at_ (bl w) 0 = 47) (h1 : 1 ≤ w.size) : ∃ m : Nat, ZcV (bl w) (bl w).length = (m : Int) ∧ m < (bl w).length ∧ at_ (bl w) m = 47 ∧ ∀ j, m < j → j < (bl w).length → at_ (bl w) j ≠ 47 := by
 have hs := ZaA w
 rcases Zec (bl w) (bl w).length with ⟨_, h2⟩ | h2
 ·exact absurd h (h2 0 (by omega))
 ·exact h2
theorem ZzY {w : ByteArray} (h : Zcs w = true) : 0 < w.size := by
 unfold Zcs Zcn at h
 simp only [Bool.and_eq_true] at h
 have := Zi7.1 h.1.1.2
 omega
theorem Zt3 {w : ByteArray} (h : Zcs w = true) : ZhX w = false ∧ ZbG w = false := by
 unfold Zcs at h
 simp only [Bool.and_eq_true, Bool.not_eq_true'] at h
 exact ⟨h.1.2, h.2⟩
theorem ZyG {root : Bool} {ps : List ByteArray} {p : ByteArray} (h : Zcs p = true) : Zcb root (ps ++ [p]) = Zcb root ps ++ [p] := by
 unfold Zcb
 rw [List.foldl_append]
 obtain ⟨h1, h2⟩ := Zt3 h
 simp only [List.foldl_cons, List.foldl_nil, Zbf, h1, h2, Bool.false_eq_true, if_false]
theorem Zrv (root : Bool) : ∀ (ps xs : List ByteArray), (ps.foldl (Zbf root) xs).length ≤ xs.length + ps.length
 | [], xs => Nat.le_refl _
 | p :: ps, xs => by
  rw [List.foldl_cons]
  have h1 := Zrv root ps (Zbf root xs p)
  have h2 := Zgb root xs p
  rw [List.length_cons]
  omega
theorem Zx4 (cs : List ByteArray) (p : ByteArray) : at_ (cs ++ [p]) cs.length = p := by
 rw [ZbZ (by simp)]
 simp
theorem ZC0 {w : ByteArray} (h1 : 1 ≤ w.size) (hw : w.size ≤ 1048576) (k : Int → Option R) : Zcd w (IntKind.i64.wrap ((w.size : Int) - 1)) k = k ((at_ (bl w) (w.size - 1)).toNat : Int) := by
 have hs := ZaA w
 have e : IntKind.i64.wrap ((w.size : Int) - 1) = ((w.size - 1 : Nat) : Int) := by rw [Za5 (by omega) (by omega)]; omega
 rw [e, ZbQ w (by omega)]
end
section
open Go
variable {R : Type} (N : Nat)
def Zby (ps : List ByteArray) : ByteArray := if ps = [] then ByteArray.mk #[47] else ba ((ps.map fun p => 47 :: bl p).flatten)
theorem Zhl (a b : ByteArray) : bl (a ++ b) = bl a ++ bl b := by
 unfold bl
 rw [ByteArray.data_append, Array.toList_append]
theorem Ztb (ps : List ByteArray) {i : Nat} (hi : i < ps.length) : ((ps.take (i + 1)).map fun p => 47 :: bl p).flatten = ((ps.take i).map fun p => 47 :: bl p).flatten ++ (47 :: bl (at_ ps i)) := by
 rw [List.take_succ_eq_append_getElem hi, ZbZ hi, List.map_append, List.flatten_append, List.map_cons, List.map_nil, List.flatten_cons, List.flatten_nil, List.append_nil]
theorem ZpI (ps : List ByteArray) (hs : ∀ p ∈ ps, p.size ≤ 1048576) : ((ps.map fun p => 47 :: bl p).flatten).length ≤ 1048577 * ps.length := by
 induction ps with
 | nil => simp
 | cons p ps ih =>
  have h1 := hs p (List.mem_cons_self ..)
  have h2 := ih fun q hq => hs q (List.mem_cons_of_mem _ hq)
  rw [ZaA] at h1
  rw [List.map_cons, List.flatten_cons, List.length_append, List.length_cons, List.length_cons]
  omega
theorem ZkC {ps : List ByteArray} (hl : ps.length ≤ 40) (hs : ∀ p ∈ ps, p.size ≤ 1048576) (hN : 1048580 < N) (f : Fl) (k : ByteArray → Option R) : ZhU N (Zay ps) f k = k (Zby ps) := by
 rw [Zpe]
 unfold ZkS Zby
 rw [ZaO]
 by_cases h0 : ps = []
 ·subst h0; rfl
 ·have hlen : 0 < ps.length := List.length_pos_iff.2 h0
  have hb : (((ps.length : Nat) : Int) == 0) = false := beq_false_of_ne (by omega)
  rw [if_neg h0, hb]
  simp only
  refine Eq.trans ?_ (Zff (l := fun m i => ZeV N (Zay ps) f.noOwn (ps.length : Int) (fun w5 => k w5) m (ba (((ps.take i).map fun p => 47 :: bl p).flatten)) (i : Int)) (len := ps.length) ?_ ?_ (show ps.length < N by omega))
  ·rfl
  ·intro m i hi
   have h1 := ZpI (ps.take i) fun p hp => hs p (List.mem_of_mem_take hp)
   have h2 : (ps.take i).length ≤ 40 := by rw [List.length_take]; omega
   have h3 := hs _ (ZeC hi)
   have e1 : (ByteArray.mk #[47]).size = 1 := rfl
   have e2 : ((ByteArray.mk #[47]) ++ at_ ps i).size = 1 + (at_ ps i).size := by rw [ByteArray.size_append]; rfl
   simp only [ZeV, ZcI, Zci hi, Int.natCast_nonneg, if_true, Int.toNat_natCast, ZbC hi, Zae, ZbF]
   rw [e1, if_pos (by omega), e2, ZaA, ZfU, if_pos (by omega), Zba (i := i) (by omega), Ztb ps hi]
   rfl
  ·intro m
   simp only [ZeV, ZcI, Int.lt_irrefl, decide_false, List.take_length]
theorem ZnX (ps : List ByteArray) : Zdq (Zay ps) = some ps := by
 induction ps with
 | nil => rfl
 | cons p ps ih => show Zdq (V.str p :: Zay ps) = _; rw [Zdq, ih]
theorem ZsU (ps : List ByteArray) : (Zay ps).map V.lent = Zay ps := by unfold Zay; rw [List.map_map]; rfl
theorem Zmz (st : S) (ps : List ByteArray) : ZaX (ZaY true st 11) (Zay ps) = some (Zay ps) := Zd4 fun v hv => by
 obtain ⟨p, _, rfl⟩ := List.mem_map.1 hv
 rfl
theorem ZlE (ps : List ByteArray) : (ByteArray.mk #[47]) ++ (⟨(Lib.join (ps.map (·.data.toList)) (ByteArray.mk #[47]).data.toList).toArray⟩ : ByteArray) = Zby ps := by
 unfold Zby
 have hx : ∀ (u v : ByteArray), bl u = bl v → u = v := fun u v h => by rw [← Zi6 u, ← Zi6 v, h]
 apply hx
 rw [Zhl]
 cases ps with
 | nil => rfl
 | cons p ps =>
  rw [if_neg (by simp), ZfU]
  have e : bl (⟨(Lib.join ((p :: ps).map (·.data.toList)) (ByteArray.mk #[47]).data.toList).toArray⟩ : ByteArray) = Lib.join ((p :: ps).map (·.data.toList)) [47] := rfl
  rw [e, List.map_cons, Lib.join_cons]
  unfold Lib.joinTail
  rw [List.map_map, List.map_cons, List.flatten_cons]
  rfl
theorem Zqu (ps : List ByteArray) (hs : ∀ p ∈ ps, p.size ≤ 1048576) : (Lib.join (ps.map (·.data.toList)) (ByteArray.mk #[47]).data.toList).length ≤ 1048577 * ps.length := by
 cases ps with
 | nil => simp [Lib.join_nil]
 | cons p ps =>
  have h2 := ZpI (p :: ps) hs
  have e : (ByteArray.mk #[47]).data.toList = [47] := rfl
  rw [e, List.map_cons, Lib.join_cons]
  unfold Lib.joinTail
  rw [List.map_cons, List.flatten_cons] at h2
  rw [List.map_map]
  have e2 : ((fun x : List UInt8 => [47] ++ x) ∘ fun x : ByteArray => x.data.toList) = fun p => 47 :: bl p := rfl
  rw [e2]
  rw [List.length_append] at h2 ⊢
  have e3 : (47 :: bl p).length = p.data.toList.length + 1 := rfl
  rw [e3] at h2
  omega
theorem ZiQ {ps : List ByteArray} (hl : ps.length ≤ 40) (hs : ∀ p ∈ ps, p.size ≤ 1048576) (f : Fl) (k : ByteArray → Option R) : Zre N (Zay ps) f k = k (Zby ps) := by
 rw [Zqh]
 unfold ZkO
 rw [ZjJ]
 unfold Zib Zuu
 have h1 := Zqu ps hs
 rw [ZnX]
 simp only
 have h2 : (Lib.join (ps.map (·.data.toList)) [47]).length ≤ 1048577 * ps.length := h1
 rw [if_pos ⟨by omega, by omega⟩]
 have e1 : (ByteArray.mk #[47]).size = 1 := rfl
 have e2 : (⟨(Lib.join (ps.map (·.data.toList)) (ByteArray.mk #[47]).data.toList).toArray⟩ : ByteArray).size = (Lib.join (ps.map (·.data.toList)) (ByteArray.mk #[47]).data.toList).length := by simp [ByteArray.size]
 rw [e1, e2, if_pos (by omega), ZlE]
end
section
open Go.Proofs
open Go.Proofs
def ZbN (e : List V) : Prop := ∀ i v, nth e i = some v → ∃ n : Int, v = .int .u8 n ∧ 0 ≤ n ∧ n < 256
theorem isBytes_of {xs : List Int} (h : ∀ x ∈ xs, (Lit.int .u8 x).wf = true) : ZbN (xs.map (V.int .u8)) := by
 intro i v hv
 rw [Zaf, List.getElem?_map] at hv
 cases hx : xs[i]? with
 | none => rw [hx] at hv; cases hv
 | some x =>
  rw [hx] at hv
  have := ZBz (h x (List.mem_of_getElem? hx))
  exact ⟨x, (Option.some.inj hv).symm, this.1, this.2⟩
def Zbe : Int := 4611686018427387904
theorem ZwS {α : Type} {l : List α} {i : Nat} (h : i < l.length) : ∃ a, nth l i = some a := ⟨l[i], by rw [Zaf, List.getElem?_eq_getElem h]⟩
theorem Zxn (N : Nat) {e : List V} (he : ZbN e) (f : Fl) {at_ : Int} (seed : Int) (h0 : 0 ≤ at_) (h1 : at_ < Zbe) :
  ∃ v seed' : Int, 0 ≤ v ∧ v < 256 ∧ ∀ (R : Type) (k : Int → List V → Fl → Int → Int → Option R), Ztv N e f at_ seed k = k v e f (at_ + 1) seed' := by
 unfold Zbe at h1
 have hw : IntKind.i64.wrap (at_ + 1) = at_ + 1 := Za5 (by omega) (by omega)
 have hb : ∀ y : Int, ∃ v : Int, 0 ≤ v ∧ v < 256 ∧ IntKind.i64.wrap (IntKind.u64.wrap (BitVec.ofInt IntKind.u64.bits y &&& BitVec.ofInt IntKind.u64.bits 255).toNat) = v := by
  intro y
  have hle : (BitVec.ofInt IntKind.u64.bits y &&& BitVec.ofInt IntKind.u64.bits 255).toNat ≤ 255 := by
   rw [BitVec.toNat_and]; exact Nat.and_le_right
  refine ⟨_, ?_, ?_, rfl⟩
  ·rw [ZoK (by omega) (by omega), Za5 (by omega) (by omega)]; omega
  ·rw [ZoK (by omega) (by omega), Za5 (by omega) (by omega)]; omega
 by_cases hlt : at_ < (e.length : Int)
 ·obtain ⟨u, hu⟩ := ZwS (l := e) (i := at_.toNat) (by omega)
  obtain ⟨n, rfl, hn0, hn1⟩ := he _ _ hu
  have hn : IntKind.i64.wrap n = n := Za5 (by omega) (by omega)
  refine ⟨n, IntKind.u64.wrap (IntKind.u64.wrap (IntKind.u64.wrap (seed * 6364136223846793005) + IntKind.u64.wrap (IntKind.i64.wrap n)) + 1442695040888963407), hn0, hn1, fun R k => ?_⟩
  rw [Zjj]
  unfold Zh7
  rw [decide_eq_true hlt]
  simp only [if_pos h0, hu, ZbT, asInt, if_true, hw]
  rw [decide_eq_true (by omega)]
  simp only [hn]
 ·rcases Classical.em (at_ + 1 ≤ (e.length : Int)) with h2 | h2
  ·omega
  ·obtain ⟨v, hv0, hv1, hv⟩ := hb (Int.fdiv (IntKind.u64.wrap (IntKind.u64.wrap (IntKind.u64.wrap (seed * 6364136223846793005) + 0) + 1442695040888963407)) (2 ^ (min (40 : Int).toNat 64)))
   refine ⟨v, IntKind.u64.wrap (IntKind.u64.wrap (IntKind.u64.wrap (seed * 6364136223846793005) + 0) + 1442695040888963407), hv0, hv1, fun R k => ?_⟩
   rw [Zjj]
   unfold Zh7
   rw [decide_eq_false hlt]
   simp only [hw]
   rw [decide_eq_false h2]
   simp only [hv]
theorem Zgk (N : Nat) {e : List V} (he : ZbN e) (f : Fl) {at_ : Int} (seed n : Int) (h0 : 0 ≤ at_) (h1 : at_ + 2 ≤ Zbe) :
  ∃ v at' seed' : Int, 0 ≤ v ∧ (v = 0 ∨ v < n) ∧ at_ ≤ at' ∧ at' ≤ at_ + 2 ∧ ∀ (R : Type) (k : Int → List V → Fl → Int → Int → Option R), Zhy N n e f at_ seed k = k v e f at' seed' := by
 by_cases hn : n ≤ 1
 ·refine ⟨0, at_, seed, by omega, .inl rfl, by omega, by omega, fun R k => ?_⟩
  rw [ZgQ]
  unfold ZhF
  rw [decide_eq_true hn]
 ·obtain ⟨v1, s1, a1, a2, a3⟩ := Zxn N he f seed h0 (by unfold Zbe at *; omega)
  obtain ⟨v2, s2, b1, b2, b3⟩ := Zxn N he f s1 (at_ := at_ + 1) (by omega) (by unfold Zbe at *; omega)
  have hn0 : ¬ n = 0 := by omega
  by_cases h200 : n > 200
  ·refine ⟨Int.tmod (IntKind.i64.wrap (IntKind.i64.wrap (v1 * 256) + v2)) n, at_ + 1 + 1, s2, ?_, .inr ?_, by omega, by omega, fun R k => ?_⟩
   ·rw [Za5 (x := v1 * 256) (by omega) (by omega), Za5 (by omega) (by omega)]
    exact Int.tmod_nonneg _ (by omega)
   ·exact Int.tmod_lt_of_pos _ (by omega)
   ·rw [ZgQ]
    unfold ZhF
    rw [decide_eq_false hn]
    simp only [a3]
    rw [decide_eq_true h200]
    simp only [b3, if_neg hn0]
  ·refine ⟨Int.tmod v1 n, at_ + 1, s1, Int.tmod_nonneg _ (by omega), .inr (Int.tmod_lt_of_pos _ (by omega)), by omega, by omega, fun R k => ?_⟩
   rw [ZgQ]
   unfold ZhF
   rw [decide_eq_false hn]
   simp only [a3]
   rw [decide_eq_false h200]
   simp only [if_neg hn0]
theorem ZvT (N : Nat) {e : List V} (he : ZbN e) (f : Fl) {at_ : Int} (seed n : Int) (h0 : 0 ≤ at_) (h1 : at_ + 2 ≤ Zbe) :
  ∃ (v : Bool) (at' seed' : Int), at_ ≤ at' ∧ at' ≤ at_ + 2 ∧ ∀ (R : Type) (k : Bool → List V → Fl → Int → Int → Option R), Znd N n e f at_ seed k = k v e f at' seed' := by
 obtain ⟨v, a, s, q1, q2, q3, q4, q5⟩ := Zgk N he f seed n h0 h1
 refine ⟨v == 0, a, s, q3, q4, fun R k => ?_⟩
 rw [ZoS]
 unfold Zj5
 rw [q5]
end
end Go.VM.VL
set_option linter.unusedSimpArgs false
set_option linter.unusedVariables false
namespace Go.VM.VL
open Go
section
variable (N : Nat)
theorem ZxC {e : List V} (he : ZbN e) (f : Fl) {at0 : Int} (seed : Int) (xs : List ByteArray) (g : Fl) (hx : xs ≠ []) (h0 : 0 ≤ at0) (h1 : at0 + 2 ≤ Zbe) :
  ∃ v at' seed', v ∈ xs ∧ at0 ≤ at' ∧ at' ≤ at0 + 2 ∧ ∀ (R : Type) (k : ByteArray → List V → Fl → Int → Int → Option R), ZhV N (Zay xs) g e f at0 seed k = k v e f at' seed' := by
 obtain ⟨v, a, s, q1, q2, q3, q4, q5⟩ := Zgk N he f seed ((Zay xs).length : Int) h0 h1
 have hpos : 0 < xs.length := List.length_pos_iff.2 hx
 have hlt : v.toNat < xs.length := by
  rw [ZaO] at q2
  omega
 refine ⟨at_ xs v.toNat, a, s, ZeC hlt, q3, q4, fun R k => ?_⟩
 rw [Zpl]
 unfold Zkf
 rw [q5]
 simp only [if_pos q1, ZbC hlt, Zae, ZbF]
theorem Zbb (a b : ByteArray) : (a ++ b).size = a.size + b.size := by
 rw [ZaA, Zhl, List.length_append, ← ZaA, ← ZaA]
theorem ZgO (w : ByteArray) (a b : Nat) : (ByteArray.extract w a b).size ≤ w.size := by
 rw [ZaA, Zea, List.length_drop, List.length_take, ← ZaA]; omega
theorem Zl8 (w : ByteArray) (a b : Nat) : (ByteArray.extract w 0 a).size + (ByteArray.extract w b w.size).size ≤ a + (w.size - b) := by
 rw [ZaA, ZaA, Zea, Zea, List.length_drop, List.length_drop, List.length_take, List.length_take, ← ZaA]; omega
theorem Znv {e : List V} (he : ZbN e) (f : Fl) {b : ByteArray} (hb : 0 < b.size) (hb2 : b.size ≤ 1000) : ∀ (d n : Nat) (w : ByteArray) (at0 seed : Int), d ≤ 10 → d < n → w.size + d ≤ 1000000 → 0 ≤ at0 → at0 + 6 * d ≤ Zbe →
  ∃ w' at' seed', w'.size ≤ w.size + d ∧ at0 ≤ at' ∧ at' ≤ at0 + 6 * d ∧ ∀ (R : Type) (k0 : ByteArray → List V → Fl → Int → Int → Option R), ZcU N b k0 n w (d : Int) e f at0 seed = k0 w' e f at' seed' := by
 intro d
 induction d with
 | zero =>
  intro n w at0 seed hd hn hw h0 h1
  obtain ⟨n, rfl⟩ : ∃ m, n = m + 1 := ⟨n - 1, by omega⟩
  exact ⟨w, at0, seed, by omega, by omega, by omega, fun R k0 => rfl⟩
 | succ d ih =>
  intro n w at0 seed hd hn hw h0 h1
  unfold Zbe at *
  obtain ⟨n, rfl⟩ : ∃ m, n = m + 1 := ⟨n - 1, by omega⟩
  have hd0 : decide (((d + 1 : Nat) : Int) > 0) = true := decide_eq_true (by omega)
  by_cases hz : w.size = 0
  ·refine ⟨w, at0, seed, by omega, by omega, by omega, fun R k0 => ?_⟩
   simp only [ZcU, Zb8, hd0, decide_eq_false (show ¬ ((w.size : Int) > 0) by omega)]
  ·obtain ⟨i, a1, s1, p1, p2, p3, p4, p5⟩ := Zgk N he f seed (w.size : Int) h0 (by unfold Zbe; omega)
   obtain ⟨j, a2, s2, q1, q2, q3, q4, q5⟩ := Zgk N he f s1 (b.size : Int) (at_ := a1) (by omega) (by unfold Zbe; omega)
   obtain ⟨t, a3, s3, r1, r2, r3, r4, r5⟩ := Zgk N he f s2 3 (at_ := a2) (by omega) (by unfold Zbe; omega)
   have hi : i < (w.size : Int) := by omega
   obtain ⟨jn, rfl⟩ := Int.eq_ofNat_of_zero_le q1
   have hj : jn < (bl b).length := by rw [← ZaA]; omega
   have hwd : IntKind.i64.wrap (((d + 1 : Nat) : Int) - 1) = (d : Int) := by rw [Za5 (by omega) (by omega)]; omega
   have hwi : IntKind.i64.wrap (i + 1) = i + 1 := Za5 (by omega) (by omega)
   obtain ⟨in_, rfl⟩ := Int.eq_ofNat_of_zero_le p1
   have hwn : ((in_ : Int) + 1).toNat = in_ + 1 := by omega
   have fin : ∀ w1 : ByteArray, w1.size ≤ w.size + 1 → (∀ (R : Type) (k0 : ByteArray → List V → Fl → Int → Int → Option R), ZcU N b k0 (n + 1) w ((d + 1 : Nat) : Int) e f at0 seed = ZcU N b k0 n w1 (d : Int) e f a3 s3) →
     ∃ w' at' seed', w'.size ≤ w.size + (d + 1) ∧ at0 ≤ at' ∧ at' ≤ at0 + 6 * ((d + 1 : Nat) : Int) ∧ ∀ (R : Type) (k0 : ByteArray → List V → Fl → Int → Int → Option R), ZcU N b k0 (n + 1) w ((d + 1 : Nat) : Int) e f at0 seed = k0 w' e f at' seed' := by
    intro w1 hw1 heq
    obtain ⟨w', a', s', z1, z2, z3, z4⟩ := ih n w1 a3 s3 (by omega) (by omega) (by omega) (by omega) (by omega)
    exact ⟨w', a', s', by omega, by omega, by omega, fun R k0 => (heq R k0).trans (z4 R k0)⟩
   obtain ⟨c, hc, hcs⟩ : ∃ c : List Int, ZxW [.int .u8 ((at_ (bl b) jn).toNat : Int)] = some c ∧ (strOfNums c).size = 1 := by
    refine ⟨_, rfl, ?_⟩
    rfl
   have e1 := ZgO w 0 in_
   have e2 := Zl8 w in_ in_
   have e3 := Zl8 w in_ (in_ + 1)
   have e4 := ZgO w in_ w.size
   have e5 := ZgO w (in_ + 1) w.size
   by_cases t0 : t = 0
   ·refine fin (((ByteArray.extract w 0 in_) ++ (strOfNums c)) ++ (ByteArray.extract w in_ w.size)) (by rw [Zbb, Zbb]; omega) fun R k0 => ?_
    simp only [ZcU, Zb8, hd0, decide_eq_true (show ((w.size : Int) > 0) by omega), p5, q5, ZbQ b hj, hc, r5, t0, beq_self_eq_true, hwd, Int.toNat_natCast]
    rw [if_pos (by omega), if_pos (by omega), if_pos (by omega), if_pos (by rw [Zbb]; omega)]
   ·by_cases t1 : t = 1
    ·refine fin (((ByteArray.extract w 0 in_) ++ (strOfNums c)) ++ (ByteArray.extract w (in_ + 1) w.size)) (by rw [Zbb, Zbb]; omega) fun R k0 => ?_
     simp only [ZcU, Zb8, hd0, decide_eq_true (show ((w.size : Int) > 0) by omega), p5, q5, ZbQ b hj, hc, r5, t1, beq_self_eq_true, hwd, hwi, Int.toNat_natCast, hwn, show ((1 : Int) == 0) = false from rfl]
     rw [if_pos (by omega), if_pos (by omega), if_pos (by omega), if_pos (by rw [Zbb]; omega)]
    ·refine fin ((ByteArray.extract w 0 in_) ++ (ByteArray.extract w (in_ + 1) w.size)) (by rw [Zbb]; omega) fun R k0 => ?_
     simp only [ZcU, Zb8, hd0, decide_eq_true (show ((w.size : Int) > 0) by omega), p5, q5, ZbQ b hj, hc, r5, hwd, hwi, Int.toNat_natCast, hwn, show (t == 0) = false from beq_false_of_ne t0, show (t == 1) = false from beq_false_of_ne t1]
     rw [if_pos (by omega), if_pos (by omega), if_pos (by omega)]
theorem ZvE {e : List V} (he : ZbN e) (f : Fl) {b : ByteArray} (hb : 0 < b.size) (hb2 : b.size ≤ 1000) (hN : 100 < N) {w : ByteArray} (hw : w.size ≤ 1000) {at0 : Int} (seed : Int) (h0 : 0 ≤ at0) (h1 : at0 + 14 ≤ Zbe) :
  ∃ w' at' seed', w'.size ≤ w.size + 2 ∧ at0 ≤ at' ∧ at' ≤ at0 + 14 ∧ ∀ (R : Type) (k : ByteArray → List V → Fl → Int → Int → Option R), ZwV N w b e f at0 seed k = k w' e f at' seed' := by
 unfold Zbe at *
 obtain ⟨v, a1, s1, p1, p2, p3, p4, p5⟩ := Zgk N he f seed 2 h0 (by unfold Zbe; omega)
 have hv : v < 2 := by omega
 have hw1 : IntKind.i64.wrap (1 + v) = ((1 + v.toNat : Nat) : Int) := by rw [Za5 (by omega) (by omega)]; omega
 obtain ⟨w', a', s', z1, z2, z3, z4⟩ := Znv N he f hb hb2 (1 + v.toNat) N w a1 s1 (by omega) (by omega) (by omega) (by omega) (by unfold Zbe; omega)
 refine ⟨w', a', s', by omega, by omega, by omega, fun R k => ?_⟩
 rw [ZpD]
 unfold Zkp
 rw [p5, hw1]
 exact z4 R k
theorem ZtY {e : List V} (he : ZbN e) (f : Fl) : ∀ (d n : Nat) (w : ByteArray) (at0 seed : Int), d ≤ 10 → d < n → w.size + 4 * d ≤ 1000000 → 0 ≤ at0 → at0 + 4 * d ≤ Zbe →
  ∃ w' at' seed', w'.size ≤ w.size + 4 * d ∧ at0 ≤ at' ∧ at' ≤ at0 + 4 * d ∧ ∀ (R : Type) (k0 : ByteArray → List V → Fl → Int → Int → Option R), Zf6 N k0 n w (d : Int) e f at0 seed = k0 w' e f at' seed' := by
 intro d
 induction d with
 | zero =>
  intro n w at0 seed hd hn hw h0 h1
  obtain ⟨n, rfl⟩ : ∃ m, n = m + 1 := ⟨n - 1, by omega⟩
  exact ⟨w, at0, seed, by omega, by omega, by omega, fun R k0 => rfl⟩
 | succ d ih =>
  intro n w at0 seed hd hn hw h0 h1
  unfold Zbe at *
  obtain ⟨n, rfl⟩ : ∃ m, n = m + 1 := ⟨n - 1, by omega⟩
  have hd0 : decide (((d + 1 : Nat) : Int) > 0) = true := decide_eq_true (by omega)
  obtain ⟨u, a1, s1, p1, p2, p3, p4⟩ := ZxC N he f seed [ByteArray.mk #[97], ByteArray.mk #[98], ByteArray.mk #[99], ByteArray.mk #[46], ByteArray.mk #[46, 46], ByteArray.mk #[100, 49]] .sh (by simp) h0 (by unfold Zbe; omega)
  obtain ⟨v, a2, s2, q1, q2, q3, q4⟩ := ZxC N he f s1 [ByteArray.mk #[47], ByteArray.mk #[47], ByteArray.mk #[47, 47]] .sh (by simp) (at0 := a1) (by omega) (by unfold Zbe; omega)
  have hu : u.size ≤ 2 := by
   have : ∀ x ∈ [ByteArray.mk #[97], ByteArray.mk #[98], ByteArray.mk #[99], ByteArray.mk #[46], ByteArray.mk #[46, 46], ByteArray.mk #[100, 49]], x.size ≤ 2 := by decide
   exact this u p1
  have hv : v.size ≤ 2 := by
   have : ∀ x ∈ [ByteArray.mk #[47], ByteArray.mk #[47], ByteArray.mk #[47, 47]], x.size ≤ 2 := by decide
   exact this v q1
  have hwd : IntKind.i64.wrap (((d + 1 : Nat) : Int) - 1) = (d : Int) := by rw [Za5 (by omega) (by omega)]; omega
  obtain ⟨w', a', s', z1, z2, z3, z4⟩ := ih n (w ++ (u ++ v)) a2 s2 (by omega) (by omega) (by rw [Zbb, Zbb]; omega) (by omega) (by omega)
  rw [Zbb, Zbb] at z1
  refine ⟨w', a', s', by omega, by omega, by omega, fun R k0 => ?_⟩
  rw [Zf6, Zdh, hd0]
  refine (p4 R _).trans ((q4 R _).trans ?_)
  rw [if_pos (by omega), if_pos (by rw [Zbb]; omega), hwd]
  exact z4 R k0
theorem Zz3 {e : List V} (he : ZbN e) (f : Fl) (hN : 100 < N) {at0 : Int} (seed : Int) (h0 : 0 ≤ at0) (h1 : at0 + 60 ≤ Zbe) :
  ∃ w at' seed', w.size ≤ 60 ∧ at0 ≤ at' ∧ at' ≤ at0 + 60 ∧ ∀ (R : Type) (k : ByteArray → List V → Fl → Int → Int → Option R), ZtT N e f at0 seed k = k w e f at' seed' := by
 unfold Zbe at *
 obtain ⟨u, a1, s1, p1, p2, p3, p4⟩ := ZxC N he f seed [ByteArray.mk #[47], ByteArray.mk #[], ByteArray.mk #[47], ByteArray.mk #[47, 47]] .sh (by simp) h0 (by unfold Zbe; omega)
 have hu : u.size ≤ 2 := by
  have : ∀ x ∈ [ByteArray.mk #[47], ByteArray.mk #[], ByteArray.mk #[47], ByteArray.mk #[47, 47]], x.size ≤ 2 := by decide
  exact this u p1
 obtain ⟨v, a2, s2, q1, q2, q3, q4, q5⟩ := Zgk N he f s1 4 (at_ := a1) (by omega) (by unfold Zbe; omega)
 obtain ⟨vn, rfl⟩ := Int.eq_ofNat_of_zero_le q1
 obtain ⟨w, a3, s3, r1, r2, r3, r4⟩ := ZtY N he f vn N u a2 s2 (by omega) (by omega) (by omega) (by omega) (by unfold Zbe; omega)
 obtain ⟨t, a4, s4, t1, t2, t3, t4⟩ := ZxC N he f s3 [ByteArray.mk #[97], ByteArray.mk #[98], ByteArray.mk #[46], ByteArray.mk #[46, 46], ByteArray.mk #[]] .sh (by simp) (at0 := a3) (by omega) (by unfold Zbe; omega)
 have ht : t.size ≤ 2 := by
  have : ∀ x ∈ [ByteArray.mk #[97], ByteArray.mk #[98], ByteArray.mk #[46], ByteArray.mk #[46, 46], ByteArray.mk #[]], x.size ≤ 2 := by decide
  exact this t t1
 obtain ⟨b, a5, s5, b1, b2, b3⟩ := ZvT N he f s4 20 (at_ := a4) (by omega) (by unfold Zbe; omega)
 obtain ⟨w', a6, s6, c1, c2, c3, c4⟩ := ZvE N he f (b := ByteArray.mk #[47, 65, 46]) (by decide) (by decide) hN (w := w ++ t) (by rw [Zbb]; omega) s5 (at0 := a5) (by omega) (by unfold Zbe; omega)
 rw [Zbb] at c1
 have go : ∀ (R : Type) (k : ByteArray → List V → Fl → Int → Int → Option R), ZtT N e f at0 seed k = match b with
   | true => k w' e f a6 s6
   | false => k (w ++ t) e f a5 s5 := fun R k => by
  rw [ZoZ]
  unfold Zka
  refine (p4 R _).trans ((q5 R _).trans ((r4 R _).trans ((t4 R _).trans ?_)))
  rw [if_pos (by omega)]
  refine (b3 R _).trans ?_
  cases b with
  | true => exact c4 R k
  | false => rfl
 cases b with
 | true => exact ⟨w', a6, s6, by omega, by omega, by omega, go⟩
 | false => exact ⟨w ++ t, a5, s5, by rw [Zbb]; omega, by omega, by omega, go⟩
theorem ZeA {e : List V} (he : ZbN e) (f : Fl) (hN : 100 < N) : ∃ w, w.size ≤ 60 ∧ ∀ (R : Type) (k : ByteArray → Option R), Zsl N e f k = k w := by
 obtain ⟨w, a, s, p1, p2, p3, p4⟩ := Zz3 N he f.noOwn.noOwn hN 0 (at0 := 0) (by omega) (by unfold Zbe; omega)
 refine ⟨w, p1, fun R k => ?_⟩
 rw [Zql]
 unfold Zl7
 exact p4 R _
end
end Go.VM.VL
set_option linter.unusedSimpArgs false
set_option linter.unusedVariables false
namespace Go.VM.VL
open Go
section
def Pt (p : ByteArray) : Prop := p.size ≠ 0 ∧ ∀ x ∈ bl p, x ≠ 47
def Za4 (ps : List ByteArray) : List UInt8 := (ps.map fun p => 47 :: bl p).flatten
theorem Zei : Za4 [] = [] := rfl
theorem Zbg (p : ByteArray) (ps : List ByteArray) : Za4 (p :: ps) = 47 :: (bl p ++ Za4 ps) := by simp [Za4]
theorem ZdC (a b : List ByteArray) : Za4 (a ++ b) = Za4 a ++ Za4 b := by simp [Za4]
theorem ZbY (ps : List ByteArray) : bl (Zby ps) = if ps = [] then [47] else Za4 ps := by
 unfold Zby
 split <;> rfl
def ZnJ (ps : List ByteArray) : ByteArray := ba ((Za4 ps).drop 1)
theorem Zfk (p : ByteArray) (ps : List ByteArray) : bl (ZnJ (p :: ps)) = bl p ++ Za4 ps := by
 unfold ZnJ
 rw [Zbg]; rfl
theorem ZeL : ∀ (ps : List ByteArray) (p : ByteArray), Pt p → (∀ q ∈ ps, Pt q) → ZaV 47 (bl p ++ Za4 ps) = (p :: ps).map bl
 | [], p, hp, _ => by
  rw [Zei, List.append_nil, Zfv 47 _ hp.2]; rfl
 | q :: ps, p, hp, h => by
  rw [Zbg, Zhq, Zfv 47 _ hp.2, ZeL ps q (h q (by simp)) fun r hr => h r (by simp [hr])]
  rfl
theorem Zmc (ps : List ByteArray) : (ps.map bl).map ba = ps := by
 rw [List.map_map]
 exact List.map_id _
theorem Zjy {p : ByteArray} (h : Pt p) : ZbD p = false := by
 rw [ZcA]
 exact decide_eq_false h.1
theorem Zp0 {ps : List ByteArray} (h : ∀ q ∈ ps, Pt q) : (ps.filter fun p => !ZbD p) = ps := by
 rw [List.filter_eq_self]
 intro q hq
 rw [Zjy (h q hq)]; rfl
theorem ZtM {ps : List ByteArray} (hne : ps ≠ []) (h : ∀ q ∈ ps, Pt q) : ZaL (ZnJ ps) = ps := by
 cases ps with
 | nil => exact absurd rfl hne
 | cons p ps =>
  unfold ZaL ZaW
  rw [Zfk, ZeL ps p (h p (by simp)) fun r hr => h r (by simp [hr]), Zmc]
  exact Zp0 h
theorem Zhh : ZbD (ba []) = true := by rw [ZcA]; rfl
theorem Zgc {ps : List ByteArray} (h : ∀ q ∈ ps, Pt q) : ZaL (Zby ps) = ps := by
 cases ps with
 | nil =>
  unfold ZaL ZaW
  rw [ZbY, if_pos rfl, Zb0 rfl]
  show List.filter (fun p => !ZbD p) [ba [], ba []] = []
  simp [List.filter, Zhh]
 | cons p ps =>
  unfold ZaL ZaW
  rw [ZbY, if_neg (by simp), Zbg]
  have := Zhq 47 [] (bl p ++ Za4 ps)
  rw [List.nil_append] at this
  rw [this, ZeL ps p (h p (by simp)) fun r hr => h r (by simp [hr]), show ZaV 47 [] = [[]] from rfl, List.singleton_append, List.map_cons, Zmc, List.filter_cons]
  rw [Zhh]
  exact Zp0 h
theorem ZAE {a b : List ByteArray} (ha : ∀ q ∈ a, Pt q) (hb : ∀ q ∈ b, Pt q) (h : Zby a = Zby b) : a = b := by
 rw [← Zgc ha, ← Zgc hb, h]
theorem Zfz (c : UInt8) : ∀ l, ∀ p ∈ ZaV c l, ∀ x ∈ p, x ≠ c
 | [], p, hp, x, hx => by
  simp only [ZaV, List.mem_singleton] at hp
  subst hp; cases hx
 | b :: l, p, hp, x, hx => by
  by_cases hb : b = c
  ·rw [Zb0 hb] at hp
   rcases List.mem_cons.1 hp with rfl | hp
   ·cases hx
   ·exact Zfz c l p hp x hx
  ·rw [ZbV hb] at hp
   cases hs : ZaV c l with
   | nil => exact absurd hs (Zco c l)
   | cons q qs =>
    rw [hs] at hp
    rcases List.mem_cons.1 hp with rfl | hp
    ·rcases List.mem_append.1 hx with hx | hx
     ·rw [List.mem_singleton.1 hx]; exact hb
     ·exact Zfz c l q (by rw [hs]; simp) x hx
    ·exact Zfz c l p (by rw [hs]; simp [hp]) x hx
theorem Zu0 {w p : ByteArray} (h : p ∈ ZaL w) : Pt p := by
 unfold ZaL at h
 obtain ⟨h1, h2⟩ := List.mem_filter.1 h
 refine ⟨?_, ?_⟩
 ·intro h0
  rw [ZcA, decide_eq_true h0] at h2
  cases h2
 ·unfold ZaW at h1
  obtain ⟨q, hq, rfl⟩ := List.mem_map.1 h1
  exact Zfz 47 (bl w) q hq
def Nm (p : ByteArray) : Prop := ZhX p = false ∧ ZbG p = false
def ZqW (l : List ByteArray) : Prop := ∀ p ∈ l, ZbG p = true
theorem Zd6 {p : ByteArray} (h : ZbG p = true) : ZhX p = false := by
 unfold ZbG ZhX at *
 rw [beq_iff_eq] at h
 rw [h]; decide +kernel
structure Cln (root : Bool) (xs : List ByteArray) : Prop where
 ex : ∃ d m : List ByteArray, xs = d ++ m ∧ ZqW d ∧ (∀ p ∈ m, Nm p) ∧ (root = true → d = [])
theorem ZjV (l : List ByteArray) (p : ByteArray) : at_ (l ++ [p]) ((l ++ [p]).length - 1) = p := by
 rw [List.length_append, List.length_singleton, Nat.add_sub_cancel, Zx4]
theorem Zh5 {root : Bool} {xs : List ByteArray} {p : ByteArray} (hp : ZbG p = true) (h : xs = [] ∨ ZbG (at_ xs (xs.length - 1)) = true) : Zbf root xs p = if root then xs else xs ++ [p] := by
 unfold Zbf
 rw [Zd6 hp, hp]
 rcases h with rfl | h
 ·simp
 ·rw [h]; simp
theorem ZfV {root : Bool} {xs : List ByteArray} {p : ByteArray} (hp : Nm p) : Zbf root xs p = xs ++ [p] := by
 unfold Zbf
 rw [hp.1, hp.2]; simp
theorem Zw6 {root : Bool} {xs : List ByteArray} {p q : ByteArray} (hp : ZbG p = true) (hq : ZbG q = false) : Zbf root (xs ++ [q]) p = xs := by
 unfold Zbf
 rw [Zd6 hp, hp, ZjV, hq]
 have h1 : decide (0 < (xs ++ [q]).length) = true := decide_eq_true (by simp)
 rw [h1]
 simp
theorem Zds {α : Type} (l : List α) : l = [] ∨ ∃ l' a, l = l' ++ [a] := by
 rcases List.eq_nil_or_concat l with h | ⟨l', a, h⟩
 ·exact .inl h
 ·exact .inr ⟨l', a, by simpa using h⟩
theorem Zmg {d : List ByteArray} (hd : ZqW d) : d = [] ∨ ZbG (at_ d (d.length - 1)) = true := by
 rcases Zds d with rfl | ⟨l, a, rfl⟩
 ·exact .inl rfl
 ·rw [ZjV]; exact .inr (hd a (by simp))
theorem Cln.step {root : Bool} {xs : List ByteArray} (h : Cln root xs) (p : ByteArray) : Cln root (Zbf root xs p) := by
 obtain ⟨d, m, rfl, hd, hm, hr⟩ := h.ex
 cases h1 : ZhX p with
 | true => unfold Zbf; rw [h1]; exact ⟨d, m, rfl, hd, hm, hr⟩
 | false =>
  cases h2 : ZbG p with
  | false =>
   rw [ZfV ⟨h1, h2⟩]
   refine ⟨d, m ++ [p], by simp, hd, fun q hq => ?_, hr⟩
   rcases List.mem_append.1 hq with hq | hq
   ·exact hm q hq
   ·rw [List.mem_singleton.1 hq]; exact ⟨h1, h2⟩
  | true =>
   rcases Zds m with rfl | ⟨m, q, rfl⟩
   ·rw [List.append_nil, Zh5 h2 (Zmg hd)]
    split
    ·rename_i hroot
     exact ⟨d, [], by simp, hd, by simp, hr⟩
    ·rename_i hroot
     refine ⟨d ++ [p], [], by simp, fun q hq => ?_, by simp, fun h => absurd h hroot⟩
     rcases List.mem_append.1 hq with hq | hq
     ·exact hd q hq
     ·rw [List.mem_singleton.1 hq]; exact h2
   ·rw [← List.append_assoc, Zw6 h2 (hm q (by simp)).2]
    exact ⟨d, m, rfl, hd, fun r hr => hm r (by simp [hr]), hr⟩
theorem Cln.fold {root : Bool} : ∀ (ps : List ByteArray) {xs : List ByteArray}, Cln root xs → Cln root (ps.foldl (Zbf root) xs)
 | [], _, h => h
 | p :: ps, _, h => Cln.fold ps (h.step p)
theorem Cln.nil (root : Bool) : Cln root [] := ⟨[], [], rfl, by simp [ZqW], by simp, fun _ => rfl⟩
theorem Ztc (root : Bool) (ps : List ByteArray) : Cln root (Zcb root ps) := Cln.fold ps (Cln.nil root)
theorem Zia {root : Bool} : ∀ (m : List ByteArray) {xs : List ByteArray}, (∀ p ∈ m, Nm p) → m.foldl (Zbf root) xs = xs ++ m
 | [], xs, _ => by simp
 | p :: m, xs, h => by
  rw [List.foldl_cons, ZfV (h p (by simp)), Zia m fun q hq => h q (by simp [hq])]
  simp
theorem Zkd : ∀ (d : List ByteArray) {xs : List ByteArray}, ZqW d → ZqW xs → d.foldl (Zbf false) xs = xs ++ d
 | [], xs, _, _ => by simp
 | p :: d, xs, h, hx => by
  rw [List.foldl_cons, Zh5 (h p (by simp)) (Zmg hx)]
  simp only [Bool.false_eq_true, if_false]
  rw [Zkd d (fun q hq => h q (by simp [hq])) fun q hq => ?_]
  ·simp
  ·rcases List.mem_append.1 hq with hq | hq
   ·exact hx q hq
   ·rw [List.mem_singleton.1 hq]; exact h p (by simp)
theorem Zrh {root : Bool} {xs : List ByteArray} (h : Cln root xs) : Zcb root xs = xs := by
 obtain ⟨d, m, rfl, hd, hm, hr⟩ := h.ex
 unfold Zcb
 rw [List.foldl_append, Zia m hm]
 cases root with
 | true => rw [hr rfl]; rfl
 | false => rw [Zkd d hd (by simp [ZqW])]; simp
theorem ZqX {root : Bool} {xs : List ByteArray} {p q : ByteArray} (h : q ∈ Zbf root xs p) : q ∈ xs ∨ q = p := by
 unfold Zbf at h
 split at h
 ·exact .inl h
 ·split at h
  ·split at h
   ·exact .inl (List.mem_of_mem_take h)
   ·split at h
    ·exact .inl h
    ·rcases List.mem_append.1 h with h | h
     ·exact .inl h
     ·exact .inr (List.mem_singleton.1 h)
  ·rcases List.mem_append.1 h with h | h
   ·exact .inl h
   ·exact .inr (List.mem_singleton.1 h)
theorem ZoP {root : Bool} : ∀ (ps : List ByteArray) {xs : List ByteArray} {q : ByteArray}, q ∈ ps.foldl (Zbf root) xs → q ∈ xs ∨ q ∈ ps
 | [], xs, q, h => .inl h
 | p :: ps, xs, q, h => by
  rcases ZoP ps h with h | h
  ·rcases ZqX h with h | rfl
   ·exact .inl h
   ·exact .inr (by simp)
  ·exact .inr (by simp [h])
theorem Zhd {root : Bool} {ps : List ByteArray} {q : ByteArray} (h : q ∈ Zcb root ps) : q ∈ ps := by
 rcases ZoP ps h with h | h
 ·cases h
 ·exact h
theorem Zh1 (xs : List ByteArray) (n : Nat) : (Za4 (xs.take n)).length ≤ (Za4 xs).length := by
 conv => rhs; rw [← List.take_append_drop n xs, ZdC, List.length_append]
 omega
theorem ZnT (root : Bool) (xs : List ByteArray) (p : ByteArray) : (Za4 (Zbf root xs p)).length ≤ (Za4 xs).length + (Za4 [p]).length := by
 have h := Zh1 xs (xs.length - 1)
 unfold Zbf
 split
 ·omega
 ·split
  ·split
   ·omega
   ·split
    ·omega
    ·rw [ZdC, List.length_append]; exact Nat.le_refl _
  ·rw [ZdC, List.length_append]; exact Nat.le_refl _
theorem Zk7 (root : Bool) : ∀ (ps xs : List ByteArray), (Za4 (ps.foldl (Zbf root) xs)).length ≤ (Za4 xs).length + (Za4 ps).length
 | [], xs => by simp [Za4]
 | p :: ps, xs => by
  have h1 := Zk7 root ps (Zbf root xs p)
  have h2 := ZnT root xs p
  have h3 : (Za4 (p :: ps)).length = (Za4 [p]).length + (Za4 ps).length := by
   rw [← List.length_append, ← ZdC]; rfl
  rw [List.foldl_cons]
  omega
theorem Zio (root : Bool) (ps : List ByteArray) : (Za4 (Zcb root ps)).length ≤ (Za4 ps).length := by
 have := Zk7 root ps []
 rw [Zei, List.length_nil, Nat.zero_add] at this
 exact this
theorem Zii : ∀ l : List UInt8, (Za4 ((ZaV 47 l).map ba)).length = l.length + 1
 | [] => rfl
 | b :: l => by
  have ih := Zii l
  by_cases hb : b = 47
  ·rw [Zb0 hb, List.map_cons, Zbg, List.length_cons, List.length_append, ih]
   show 0 + (l.length + 1) + 1 = _
   simp
  ·rw [ZbV hb]
   cases hs : ZaV 47 l with
   | nil => exact absurd hs (Zco 47 l)
   | cons q qs =>
    rw [hs, List.map_cons, Zbg, List.length_cons, List.length_append, ZfU] at ih
    show (Za4 ((([b] ++ q) :: qs).map ba)).length = _
    rw [List.map_cons, Zbg, List.length_cons, List.length_append, ZfU, List.length_append, List.length_singleton, List.length_cons]
    omega
theorem Zmj : ∀ ps : List ByteArray, (Za4 (ps.filter fun p => !ZbD p)).length ≤ (Za4 ps).length
 | [] => Nat.le_refl _
 | p :: ps => by
  have ih := Zmj ps
  rw [List.filter_cons]
  split
  ·rw [Zbg, Zbg, List.length_cons, List.length_cons, List.length_append, List.length_append]; omega
  ·rw [Zbg, List.length_cons, List.length_append]; omega
theorem ZfZ (w : ByteArray) : (Za4 (ZaL w)).length ≤ w.size + 1 := by
 have h1 := Zmj (ZaW w)
 have h2 := Zii (bl w)
 rw [ZaA]
 unfold ZaL
 unfold ZaW at *
 omega
def Zbd (w : ByteArray) : Bool := ((((at_ (bl w) 0).toNat : Nat) : Int) == 47)
theorem ZgP {w : ByteArray} : Zbd w = true ↔ at_ (bl w) 0 = 47 := by
 unfold Zbd
 rw [ZBa]; simp
theorem ZuF {w : ByteArray} (h : Zbd w = true) (h0 : 0 < w.size) : ∃ l, bl w = 47 :: l := by
 have h1 := ZgP.1 h
 rw [ZaA] at h0
 cases hb : bl w with
 | nil => rw [hb] at h0; simp at h0
 | cons b l => rw [hb] at h1; exact ⟨l, by rw [show b = 47 from h1]⟩
theorem Zry {w : ByteArray} (h : Zbd w = true) (h0 : 0 < w.size) : (Za4 (ZaL w)).length ≤ w.size := by
 obtain ⟨l, hl⟩ := ZuF h h0
 have h3 : ZaL w = ZaL (ba l) := by
  unfold ZaL ZaW
  rw [hl, Zb0 rfl, List.map_cons, List.filter_cons, Zhh]
  rfl
 have h4 := ZfZ (ba l)
 have h5 : w.size = l.length + 1 := by rw [ZaA, hl]; simp
 have h6 : (ba l).size = l.length := by rw [ZaA, ZfU]
 rw [h3]
 omega
end
end Go.VM.VL
set_option linter.unusedSimpArgs false
set_option linter.unusedVariables false
namespace Go.VM.VL
open Go
section
variable {R : Type} (N : Nat)
theorem ZoE (es : List V) (ver : Nat) : Za9 [some ⟨es, 1, 9, ver⟩] 0 ver = some ⟨es, 1, 9, ver⟩ := by simp [Za9, nth]
theorem Zkm (root : Bool) {ps : List ByteArray} (hps : ps.length ≤ 1048577) {i : Nat} (hi : i < ps.length) {xs : List ByteArray} {es : List V} {ver : Nat} (hx : es.take xs.length = Zay xs) (hl : xs.length ≤ es.length) (hxi : xs.length ≤ i)
  (nx : Nat → Nat → Int → Ob → Option R) (k0 : Nat → Nat → Ob → Option R) :
  ∃ es' ver', es'.take (Zbf root xs (at_ ps i)).length = Zay (Zbf root xs (at_ ps i)) ∧ (Zbf root xs (at_ ps i)).length ≤ es'.length ∧
   Zcl N root (Zay ps) (ps.length : Int) nx ver xs.length (i : Int) ⟨es, 1, 9, ver⟩ k0 = nx ver' (Zbf root xs (at_ ps i)).length ((i + 1 : Nat) : Int) ⟨es', 1, 9, ver'⟩ := by
 unfold Zcl
 simp only [Zci hi, Int.natCast_nonneg, if_true, Int.toNat_natCast, ZbC hi, Zae, ZbF, Zba (i := i) (by omega)]
 have app : ∃ es', es' = es.take xs.length ++ [V.str (at_ ps i)] ∧ es'.take (xs ++ [at_ ps i]).length = Zay (xs ++ [at_ ps i]) ∧ (xs ++ [at_ ps i]).length ≤ es'.length := by
  refine ⟨_, rfl, ?_, ?_⟩
  ·rw [hx, Zdg, List.take_of_length_le]
   rw [ZaO]; exact Nat.le_refl _
  ·rw [hx, Zdg, ZaO]; exact Nat.le_refl _
 have happ : (match Za9 [some ⟨es, 1, 9, ver⟩] 0 ver with
   | some ob48 => (if xs.length ≤ ob48.es.length then (match Za9 [some { ob48 with es := (ob48.es.take xs.length) }] 0 ver with
    | some ob49 => Zaj (Nat.beq ob49.elem 9) ((if True ∧ xs.length = ob49.es.length ∧ (xs.length + 1) * 16 ≤ 140737488355328 ∧ 0 < 1 then nx (ver + 1) (xs.length + 1) ((i + 1 : Nat) : Int) ({ ob49 with es := (ob49.es ++ ([.str (at_ ps i)] : List V)), ver := (ver + 1) }) else none))
    | none => none) else none)
   | none => none) = nx (ver + 1) (xs ++ [at_ ps i]).length ((i + 1 : Nat) : Int) ⟨es.take xs.length ++ [V.str (at_ ps i)], 1, 9, ver + 1⟩ := by
  simp only [ZoE, if_pos hl, Zeg, Zaj, List.length_take, Nat.min_eq_left hl]
  rw [if_pos ⟨trivial, trivial, by omega, by omega⟩]
  simp
 obtain ⟨es1, he1, ha1, ha2⟩ := app
 unfold Zbf
 cases hd : ZhX (at_ ps i) with
 | true =>
  unfold ZhX at hd
  rw [hd]
  exact ⟨es, ver, hx, hl, rfl⟩
 | false =>
  unfold ZhX at hd
  rw [hd]
  simp only [Bool.false_eq_true, if_false]
  cases hdd : ZbG (at_ ps i) with
  | false =>
   unfold ZbG at hdd
   rw [hdd]
   simp only [Bool.false_eq_true, if_false, Bool.not_false]
   refine ⟨es1, ver + 1, ha1, ha2, ?_⟩
   rw [he1]
   exact happ
  | true =>
   unfold ZbG at hdd
   rw [hdd]
   simp only [if_true, Bool.not_true]
   have hroot : ∃ es' ver', es'.take ((if root = true then xs else xs ++ [at_ ps i])).length = Zay (if root = true then xs else xs ++ [at_ ps i]) ∧
     (if root = true then xs else xs ++ [at_ ps i]).length ≤ es'.length ∧
     (match (!root) with
       | true => (match Za9 [some ⟨es, 1, 9, ver⟩] 0 ver with
   | some ob48 => (if xs.length ≤ ob48.es.length then (match Za9 [some { ob48 with es := (ob48.es.take xs.length) }] 0 ver with
    | some ob49 => Zaj (Nat.beq ob49.elem 9) ((if True ∧ xs.length = ob49.es.length ∧ (xs.length + 1) * 16 ≤ 140737488355328 ∧ 0 < 1 then nx (ver + 1) (xs.length + 1) ((i + 1 : Nat) : Int) ({ ob49 with es := (ob49.es ++ ([.str (at_ ps i)] : List V)), ver := (ver + 1) }) else none))
    | none => none) else none)
   | none => none)
       | false => nx ver xs.length ((i + 1 : Nat) : Int) ⟨es, 1, 9, ver⟩) = nx ver' (if root = true then xs else xs ++ [at_ ps i]).length ((i + 1 : Nat) : Int) ⟨es', 1, 9, ver'⟩ := by
    cases root with
    | true => exact ⟨es, ver, hx, hl, rfl⟩
    | false =>
     simp only [Bool.false_eq_true, if_false, Bool.not_false]
     exact ⟨es1, ver + 1, ha1, ha2, by rw [he1]; exact happ⟩
   by_cases hn : 0 < xs.length
   ·have h2 : IntKind.i64.wrap ((xs.length : Int) - 1) = ((xs.length - 1 : Nat) : Int) := by
     rw [Za5 (by omega) (by omega)]; omega
    have h3 : nth es (0 + (xs.length - 1)) = some (.str (at_ xs (xs.length - 1))) := by
     rw [Nat.zero_add]
     have : nth (es.take xs.length) (xs.length - 1) = some (.str (at_ xs (xs.length - 1))) := by rw [hx, ZbC (by omega)]
     exact (Zb6 this).1
    have hi1 : (0 : Int) ≤ ((xs.length - 1 : Nat) : Int) ∧ ((xs.length - 1 : Nat) : Int) < (xs.length : Int) := ⟨Int.natCast_nonneg _, by omega⟩
    have hi2 : (0 : Int) ≤ ((xs.length - 1 : Nat) : Int) ∧ ((xs.length - 1 : Nat) : Int) ≤ (xs.length : Int) := ⟨Int.natCast_nonneg _, by omega⟩
    have h1 : decide (((xs.length - 1 : Nat) : Int) ≥ 0) = true := decide_eq_true (by omega)
    simp only [ZoE, Zeg, Zaj, h2, h1, Int.toNat_natCast, h3, if_pos hi1, if_pos hi2, V.cells, List.drop_zero, ZdJ, ZbF]
    have hdec : decide (0 < xs.length) = true := decide_eq_true hn
    rw [hdec]
    cases hq : ZbG (at_ xs (xs.length - 1)) with
    | false =>
     unfold ZbG at hq
     rw [hq]
     simp only [Bool.not_false, Bool.and_self, if_true]
     refine ⟨es, ver, ?_, ?_, ?_⟩
     ·rw [List.length_take, Nat.min_eq_left (by omega), Zhp, ← hx, List.take_take, Nat.min_eq_left (by omega)]
     ·rw [List.length_take]; omega
     ·rw [List.length_take, Nat.min_eq_left (by omega)]
    | true =>
     unfold ZbG at hq
     rw [hq]
     simp only [Bool.not_true, Bool.and_false, Bool.false_eq_true, if_false]
     simp only [ZoE] at hroot
     exact hroot
   ·have h2 : IntKind.i64.wrap ((xs.length : Int) - 1) = (xs.length : Int) - 1 := Za5 (by omega) (by omega)
    have h1 : decide ((xs.length : Int) - 1 ≥ 0) = false := decide_eq_false (by omega)
    rw [h2, h1]
    have hdec : decide (0 < xs.length) = false := decide_eq_false hn
    rw [hdec]
    simp only [Bool.false_and, Bool.false_eq_true, if_false]
    exact hroot
theorem Zoq (root : Bool) {ps : List ByteArray} (hpl : ps.length ≤ 1048577) (hN : 1048580 < N) (k0 : Nat → Nat → Ob → Option R) (r : Option R)
  (hk : ∀ es ver, es.take (Zcb root ps).length = Zay (Zcb root ps) → (Zcb root ps).length ≤ es.length → k0 ver (Zcb root ps).length ⟨es, 1, 9, ver⟩ = r) :
  Zdm N root (Zay ps) (ps.length : Int) k0 N 0 0 0 ⟨[], 1, 9, 0⟩ = r := by
 have key : ∀ (d n i : Nat) (xs : List ByteArray) (es : List V) (ver : Nat), i + d = ps.length → d < n → es.take xs.length = Zay xs → xs.length ≤ es.length → xs.length ≤ i → (ps.drop i).foldl (Zbf root) xs = Zcb root ps →
   Zdm N root (Zay ps) (ps.length : Int) k0 n ver xs.length (i : Int) ⟨es, 1, 9, ver⟩ = r := by
  intro d
  induction d with
  | zero =>
   intro n i xs es ver hi hn hx hl hxi hf
   obtain ⟨n, rfl⟩ : ∃ m, n = m + 1 := ⟨n - 1, by omega⟩
   obtain rfl : i = ps.length := by omega
   rw [List.drop_length, List.foldl_nil] at hf
   subst hf
   simp only [Zdm, Zcl]
   rw [show decide ((ps.length : Int) < (ps.length : Int)) = false from decide_eq_false (by omega)]
   exact hk es ver hx hl
  | succ d ih =>
   intro n i xs es ver hi hn hx hl hxi hf
   obtain ⟨n, rfl⟩ : ∃ m, n = m + 1 := ⟨n - 1, by omega⟩
   have hlt : i < ps.length := by omega
   rw [Zdm]
   obtain ⟨es', ver', q1, q2, q3⟩ := Zkm N root (by omega) hlt hx hl hxi (fun k_5 k_6 x_4 O_9 => Zdm N root (Zay ps) (ps.length : Int) k0 n k_5 k_6 x_4 O_9) k0
   have hdr : ps.drop i = at_ ps i :: ps.drop (i + 1) := by
    rw [List.drop_eq_getElem_cons hlt]
    congr 1
    exact (ZbZ hlt).symm
   rw [hdr, List.foldl_cons] at hf
   rw [q3, ih n (i + 1) _ es' ver' (by omega) (by omega) q1 q2 (by have := Zgb root xs (at_ ps i); omega) hf]
 exact key ps.length N 0 [] [] 0 (by omega) (by omega) rfl (Nat.le_refl 0) (Nat.le_refl 0) rfl
def cl (w : ByteArray) : List ByteArray := Zcb (Zbd w) (ZaL w)
def Zbn (root : Bool) (ps : List ByteArray) : ByteArray := if root then Zby ps else if ps = [] then ByteArray.mk #[46] else ZnJ ps
def Zaz (w : ByteArray) : ByteArray := Zbn (Zbd w) (cl w)
theorem ZsK {w p : ByteArray} (h : p ∈ cl w) : Pt p := Zu0 (Zhd h)
theorem Zi0 {w p : ByteArray} (h : p ∈ cl w) : p.size ≤ w.size := ZeG (Zhd h)
theorem Zqn : ∀ {ps : List ByteArray}, (∀ p ∈ ps, Pt p) → 2 * ps.length ≤ (Za4 ps).length
 | [], _ => Nat.le_refl _
 | p :: ps, h => by
  have ih := Zqn (ps := ps) fun q hq => h q (by simp [hq])
  have hp := (h p (by simp)).1
  rw [ZaA] at hp
  rw [Zbg, List.length_cons, List.length_cons, List.length_append]
  omega
theorem ZlT {w : ByteArray} (h : w.size ≤ 60) : (cl w).length ≤ 30 := by
 have h1 := Zqn (ps := cl w) fun p hp => ZsK hp
 have h2 := Zio (Zbd w) (ZaL w)
 have h3 := ZfZ w
 unfold cl at *
 omega
theorem ZwN {ps : List ByteArray} (hne : ps ≠ []) : (⟨(Lib.join (ps.map (·.data.toList)) (ByteArray.mk #[47]).data.toList).toArray⟩ : ByteArray) = ZnJ ps := by
 have h := ZlE ps
 have h2 : bl ((ByteArray.mk #[47]) ++ (⟨(Lib.join (ps.map (·.data.toList)) (ByteArray.mk #[47]).data.toList).toArray⟩ : ByteArray)) = bl (Zby ps) := by rw [h]
 rw [Zhl, ZbY, if_neg hne] at h2
 have h3 : (Za4 ps).drop 1 = Lib.join (ps.map (·.data.toList)) (ByteArray.mk #[47]).data.toList := by
  rw [← h2]; simp [bl]
 unfold ZnJ
 rw [h3]
 rfl
theorem Zsu {w : ByteArray} (h1 : 0 < w.size) (h2 : w.size ≤ 60) (hN : 1048580 < N) (k : ByteArray → Option R) : Zsz N w k = k (Zaz w) := by
 rw [ZpS]
 unfold ZkX
 have hb0 : 0 < (bl w).length := by rw [← ZaA]; exact h1
 have hb := ZbQ (R := R) w (i := 0) hb0
 simp only [Int.ofNat_zero, Int.natCast_zero] at hb
 rw [hb, ZhK N (by omega) hN, ZaO]
 have hpl := Zc0 w
 have hl := ZlT h2
 have hs : ∀ p ∈ cl w, p.size ≤ 1048576 := fun p hp => by have := Zi0 hp; omega
 show Zdm N (Zbd w) (Zay (ZaL w)) ((ZaL w).length : Int) _ N 0 0 0 ⟨[], 1, 9, 0⟩ = _
 refine Zoq N (Zbd w) (by omega) hN _ _ fun es ver hx hle => ?_
 change es.take (cl w).length = Zay (cl w) at hx
 change (cl w).length ≤ es.length at hle
 show (match Zbd w with
  | true => _
  | false => _) = _
 simp only [ZoE, List.drop_zero, show (Zcb (Zbd w) (ZaL w)) = cl w from rfl, hx, Zmz, Nat.zero_add, decide_eq_true hle, Zaj, Zeg, ZsU]
 unfold Zaz Zbn
 cases hr : Zbd w with
 | true => simp only [if_true]; exact ZiQ N (by omega) hs _ _
 | false =>
  simp only [Bool.false_eq_true, if_false]
  by_cases hc : cl w = []
  ·rw [hc, if_pos rfl]; rfl
  ·rw [if_neg hc]
   have hlen : ((cl w).length : Int) ≠ 0 := by
    have : (cl w).length ≠ 0 := fun h => hc (List.eq_nil_of_length_eq_zero h)
    omega
   rw [show (((cl w).length : Int) == 0) = false from beq_false_of_ne hlen]
   simp only
   rw [ZjJ]
   unfold Zib Zuu
   rw [ZnX]
   have hj := Zqu (cl w) hs
   exact (if_pos ⟨by omega, Nat.le_trans hj (by omega)⟩).trans (by rw [ZwN hc])
theorem Zs1 {ps : List ByteArray} : ByteArray.extract (Zby ps) 1 (Zby ps).size = ba ((bl (Zby ps)).drop 1) := by
 rw [Zch, ZaA, List.take_length]
theorem ZiR (ps : List ByteArray) : 1 ≤ (Zby ps).size := by
 rw [ZaA, ZbY]
 split
 ·simp
 ·cases ps with
  | nil => contradiction
  | cons p ps => rw [Zbg]; simp
theorem Zjb {w : ByteArray} (h1 : 0 < w.size) (h2 : w.size ≤ 60) (hN : 1048580 < N) (k : ByteArray → Option R) : Zxc N w k = k (Zaz w) := by
 rw [ZoQ]
 unfold Zke
 have hb0 : 0 < (bl w).length := by rw [← ZaA]; exact h1
 have hb := ZbQ (R := R) w (i := 0) hb0
 simp only [Int.ofNat_zero, Int.natCast_zero] at hb
 rw [Zhx N (by omega) h1 hN, hb]
 have hl := ZlT h2
 have hs : ∀ p ∈ cl w, p.size ≤ 1048576 := fun p hp => by have := Zi0 hp; omega
 show (match Zbd w with
  | true => ZhU N (Zay (cl w)) .sh _
  | false => (match (((Zay (cl w)).length : Int) == 0) with
   | true => _
   | false => ZhU N (Zay (cl w)) .sh _)) = _
 rw [ZkC N (by omega) hs hN, ZkC N (by omega) hs hN, ZaO]
 unfold Zaz Zbn
 cases hr : Zbd w with
 | true => rfl
 | false =>
  simp only [Bool.false_eq_true, if_false]
  by_cases hc : cl w = []
  ·rw [hc, if_pos rfl]; rfl
  ·rw [if_neg hc]
   have hlen : ((cl w).length : Int) ≠ 0 := by
    have : (cl w).length ≠ 0 := fun h => hc (List.eq_nil_of_length_eq_zero h)
    omega
   rw [show (((cl w).length : Int) == 0) = false from beq_false_of_ne hlen]
   simp only
   have := ZiR (cl w)
   rw [if_pos ⟨by omega, by omega⟩, Zs1, ZbY, if_neg hc]
   rfl
def ZdW (w : ByteArray) : ByteArray := if Zbv w then Zaz w else ByteArray.mk #[]
theorem ZdH {w : ByteArray} (hw : w.size ≤ 1048576) (hN : 1048580 < N) (k : ByteArray → Bool → Option R) : Zm9 N w k = k (ZdW w) (Zbv w) := by
 rw [Zo4]
 unfold Zl2 ZdW
 rw [Zck N hw hN]
 cases hp : Zbv w with
 | false => rfl
 | true =>
  have := ZbX hp
  simp only [Bool.not_true, if_true]
  rw [Zsu N (by omega) (by omega) hN]
theorem ZB1 {w : ByteArray} (hw : w.size ≤ 1048576) (hN : 1048580 < N) (k : ByteArray → Bool → Option R) : Zvb N w k = k (ZdW w) (Zbv w) := by
 rw [Zox]
 unfold Zmh ZdW
 rw [Zej N hw hN]
 cases hp : Zbv w with
 | false => rfl
 | true =>
  have := ZbX hp
  simp only [Bool.not_true, if_true]
  rw [Zjb N (by omega) (by omega) hN]
end
end Go.VM.VL
set_option linter.unusedSimpArgs false
set_option linter.unusedVariables false
namespace Go.VM.VL
open Go
section
variable {R : Type} (N : Nat)
theorem Zi3 {a b : ByteArray} : (a.toList == b.toList) = decide (a = b) := by
 by_cases h : a = b
 ·rw [h, decide_eq_true rfl]; simp
 ·rw [decide_eq_false h]
  apply beq_false_of_ne
  intro h2
  rw [ByteArray.toList_eq, ByteArray.toList_eq] at h2
  exact h (by rw [← Zi6 a, ← Zi6 b, show bl a = bl b from h2])
def Zhs (a s : ByteArray) : ByteArray := if Zbd s then s else (a ++ ByteArray.mk #[47]) ++ s
theorem ZBk (w : ByteArray) : ((((at_ (bl w) 0).toNat : Nat) : Int) != 47) = !Zbd w := rfl
theorem ZtB {a s : ByteArray} (ha : a.size ≤ 60) (hs : s.size ≤ 60) : (Zhs a s).size ≤ 121 := by
 unfold Zhs
 have h1 : (ByteArray.mk #[47]).size = 1 := rfl
 split
 ·omega
 ·rw [Zbb, Zbb]; omega
theorem Zv5 {w : ByteArray} (h : 0 < w.size) (k : Int → Option R) : Zcd w 0 k = k ((at_ (bl w) 0).toNat : Int) := by
 have hb0 : 0 < (bl w).length := by rw [← ZaA]; exact h
 have hb := ZbQ (R := R) w (i := 0) hb0
 simp only [Int.ofNat_zero, Int.natCast_zero] at hb
 exact hb k
theorem Zsd {a s : ByteArray} (ha : a.size ≤ 1048576) (hs : s.size ≤ 1048576) (hN : 1048580 < N) (k : ByteArray → Bool → Option R) :
  Zmp N a s k = if Zbv a && Zbv s then k (ZdW (Zhs a s)) (Zbv (Zhs a s)) else k (ByteArray.mk #[]) false := by
 rw [Zpd]
 unfold Zmb
 rw [Zck N ha hN]
 cases hpa : Zbv a with
 | false => rfl
 | true =>
  simp only [Bool.not_true, Bool.true_and]
  rw [Zck N hs hN]
  cases hps : Zbv s with
  | false => rfl
  | true =>
   have q1 := ZbX hpa
   have q2 := ZbX hps
   have q3 := ZtB q1.2 q2.2
   have h1 : (ByteArray.mk #[47]).size = 1 := rfl
   simp only [Bool.not_true, if_true]
   rw [Zv5 (by omega), ZBk]
   unfold Zhs at *
   cases hr : Zbd s with
   | true =>
    rw [hr] at q3
    simp only [Bool.not_true, if_true]
    rw [ZdH N (by omega) hN]
   | false =>
    rw [hr] at q3
    simp only [Bool.not_false, Bool.false_eq_true, if_false] at q3 ⊢
    rw [if_pos (by omega), if_pos (by rw [Zbb]; omega), ZdH N (by omega) hN]
theorem Zjv (u p : List UInt8) (hp : ∀ x ∈ p, x ≠ 47) : ZcV (u ++ 47 :: p) (u ++ 47 :: p).length = (u.length : Int) := by
 have hat : ∀ j, u.length < j → j < (u ++ 47 :: p).length → at_ (u ++ 47 :: p) j ≠ 47 := by
  intro j hj hl
  rw [ZbZ hl, List.getElem_append_right (by omega)]
  have : ∃ m, j - u.length = m + 1 := ⟨j - u.length - 1, by omega⟩
  obtain ⟨m, hm⟩ := this
  simp only [hm, List.getElem_cons_succ]
  exact hp _ (List.getElem_mem _)
 have hu : u.length < (u ++ 47 :: p).length := by simp
 have hmid : at_ (u ++ 47 :: p) u.length = 47 := by
  rw [ZbZ hu, List.getElem_append_right (by omega)]; simp
 rcases Zec (u ++ 47 :: p) (u ++ 47 :: p).length with ⟨_, h⟩ | ⟨m, h, hm, h47, hr⟩
 ·exact absurd hmid (h _ hu)
 ·rw [h]
  congr 1
  rcases Nat.lt_trichotomy m u.length with hlt | heq | hgt
  ·exact absurd hmid (hr _ hlt hu)
  ·exact heq
  ·exact absurd h47 (hat m hgt hm)
theorem Zkg (p : List UInt8) (hp : ∀ x ∈ p, x ≠ 47) : ZcV p p.length = -1 := by
 rcases Zec p p.length with ⟨h, _⟩ | ⟨m, h, hm, h47, hr⟩
 ·exact h
 ·exact absurd h47 (by rw [ZbZ hm]; exact hp _ (List.getElem_mem _))
def ZlK (C : List ByteArray) : ByteArray := if C = [] then ByteArray.mk #[] else if ZbG (at_ C (C.length - 1)) then ByteArray.mk #[] else at_ C (C.length - 1)
def Zb2 (C : List ByteArray) : Bool := decide (C ≠ []) && !ZbG (at_ C (C.length - 1))
def ZC7 (root : Bool) (C : List ByteArray) : ByteArray := Zbn root (C.take (C.length - 1))
theorem Zgv {w p : ByteArray} (h : Zbv w = true) (hp : p ∈ cl w) : Zcn p = true := by
 unfold Zbv at h
 rw [Bool.and_eq_true, List.all_eq_true] at h
 exact h.1 p (Zhd hp)
theorem Zig {w p : ByteArray} (hp : p ∈ cl w) : ZhX p = false := by
 obtain ⟨d, m, hx, hd, hm, _⟩ := (Ztc (Zbd w) (ZaL w)).ex
 change cl w = d ++ m at hx
 rw [hx] at hp
 rcases List.mem_append.1 hp with h | h
 ·exact Zd6 (hd p h)
 ·exact (hm p h).1
theorem ZmS {w p : ByteArray} (h : Zbv w = true) (hp : p ∈ cl w) : Zcs p = !ZbG p := by
 unfold Zcs
 rw [Zgv h hp, Zig hp]; simp
theorem ZxM {w p : ByteArray} (hr : Zbd w = true) (hp : p ∈ cl w) : ZbG p = false := by
 obtain ⟨d, m, hx, hd, hm, h⟩ := (Ztc (Zbd w) (ZaL w)).ex
 change cl w = d ++ m at hx
 rw [hx, h hr, List.nil_append] at hp
 exact (hm p hp).2
theorem ZrP : Zcs (ByteArray.mk #[]) = false := by
 unfold Zcs Zcn inR
 rw [show decide ((1 : Int) ≤ ((ByteArray.mk #[]).size : Int)) = false from rfl]
 simp
theorem Zwj : Zcs (ByteArray.mk #[46]) = false := by
 unfold Zcs ZhX; simp
theorem Zye (u p : List UInt8) : (u ++ 47 :: p).length = u.length + (p.length + 1) := by simp
theorem Zt5 (root : Bool) (C : List ByteArray) (p : ByteArray) (hC : ∀ q ∈ C ++ [p], Pt q) :
  ∃ x3 : Int, ZcV (bl (Zbn root (C ++ [p]))) (bl (Zbn root (C ++ [p]))).length = x3 ∧ -1 ≤ x3 ∧ x3 < ((Zbn root (C ++ [p])).size : Int) ∧
   (bl (Zbn root (C ++ [p]))).drop (x3 + 1).toNat = bl p ∧
   (bl (Zbn root (C ++ [p]))).take (if 0 < x3 then x3 else 0).toNat = if root then Za4 C else (Za4 C).drop 1 := by
 have hp := (hC p (by simp)).2
 cases root with
 | true =>
  have ht : bl (Zbn true (C ++ [p])) = Za4 C ++ 47 :: bl p := by
   show bl (Zby (C ++ [p])) = _
   rw [ZbY, if_neg (by simp), ZdC, Zbg, Zei, List.append_nil]
  refine ⟨_, rfl, ?_⟩
  rw [ZaA, ht, Zjv _ _ hp]
  refine ⟨by omega, by rw [List.length_append, List.length_cons]; omega, ?_, ?_⟩
  ·rw [show ((Za4 C).length + 1 : Int).toNat = (Za4 C).length + 1 by omega, List.drop_append, List.drop_of_length_le (by omega), show (Za4 C).length + 1 - (Za4 C).length = 1 by omega]
   rfl
  ·have : (if 0 < ((Za4 C).length : Int) then ((Za4 C).length : Int) else 0).toNat = (Za4 C).length := by split <;> omega
   rw [this, List.take_left]; rfl
 | false =>
  have ht : bl (Zbn false (C ++ [p])) = bl (ZnJ (C ++ [p])) := by unfold Zbn; simp
  cases C with
  | nil =>
   have ht2 : bl (ZnJ ([] ++ [p])) = bl p := by
    rw [List.nil_append, Zfk, Zei, List.append_nil]
   refine ⟨_, rfl, ?_⟩
   rw [ZaA, ht, ht2, Zkg _ hp]
   refine ⟨by omega, by omega, rfl, rfl⟩
  | cons c C =>
   have ht2 : bl (ZnJ ((c :: C) ++ [p])) = (bl c ++ Za4 C) ++ 47 :: bl p := by
    rw [List.cons_append, Zfk, ZdC, Zbg, Zei, List.append_nil, List.append_assoc]
   refine ⟨_, rfl, ?_⟩
   rw [ZaA, ht, ht2, Zjv _ _ hp]
   refine ⟨by omega, by have := Zye (bl c ++ Za4 C) (bl p); omega, ?_, ?_⟩
   ·rw [show ((bl c ++ Za4 C).length + 1 : Int).toNat = (bl c ++ Za4 C).length + 1 by omega, List.drop_append, List.drop_of_length_le (by omega), show (bl c ++ Za4 C).length + 1 - (bl c ++ Za4 C).length = 1 by omega]
    rfl
   ·have : (if 0 < ((bl c ++ Za4 C).length : Int) then ((bl c ++ Za4 C).length : Int) else 0).toNat = (bl c ++ Za4 C).length := by split <;> omega
    rw [this, List.take_left, Zbg]; rfl
def ZyC (w : ByteArray) : ByteArray := ba (if Zbd w then Za4 ((cl w).take ((cl w).length - 1)) else (Za4 ((cl w).take ((cl w).length - 1))).drop 1)
theorem Zlf {w : ByteArray} (h1 : 0 < w.size) : (Zaz w).size ≤ w.size := by
 have h2 := Zio (Zbd w) (ZaL w)
 unfold Zaz Zbn
 cases hr : Zbd w with
 | true =>
  have h3 := Zry hr h1
  simp only [if_true]
  rw [ZaA, ZbY]
  split
  ·exact h1
  ·unfold cl at *; omega
 | false =>
  have h3 := ZfZ w
  simp only [Bool.false_eq_true, if_false]
  split
  ·exact h1
  ·unfold ZnJ
   rw [ZaA, ZfU, List.length_drop]
   unfold cl at *; omega
theorem Zzp {w : ByteArray} (hw : w.size ≤ 1048576) (hN : 1048580 < N) (k : ByteArray → ByteArray → Bool → Option R) (r : Option R)
  (h0 : Zbv w = false → k (ByteArray.mk #[]) (ByteArray.mk #[]) false = r)
  (h1 : Zbv w = true → Zb2 (cl w) = false → ∀ a b, k a b false = r)
  (h2 : Zbv w = true → Zb2 (cl w) = true → k (ZyC w) (at_ (cl w) ((cl w).length - 1)) true = r) : ZsJ N w k = r := by
 rw [ZpG]
 unfold Zlo
 rw [Zck N hw hN]
 cases hp : Zbv w with
 | false => exact h0 hp
 | true =>
  have hsz := ZbX hp
  have hts := Zlf (w := w) (by omega)
  simp only [Bool.not_true]
  rw [Zsu N (by omega) (by omega) hN, Zny N (by omega) hN]
  have fin : ∀ (x3 : Int) (a b : List UInt8), ZcV (bl (Zaz w)) (bl (Zaz w)).length = x3 → -1 ≤ x3 → x3 < ((Zaz w).size : Int) → (bl (Zaz w)).drop (x3 + 1).toNat = b → (bl (Zaz w)).take (if 0 < x3 then x3 else 0).toNat = a →
    k (ba a) (ba b) (Zcs (ba b)) = r →
    (if (0 : Int) ≤ (if 0 < ZcV (bl (Zaz w)) (bl (Zaz w)).length then ZcV (bl (Zaz w)) (bl (Zaz w)).length else 0) ∧ (if 0 < ZcV (bl (Zaz w)) (bl (Zaz w)).length then ZcV (bl (Zaz w)) (bl (Zaz w)).length else 0) ≤ ((Zaz w).size : Int) then (if (0 : Int) ≤ IntKind.i64.wrap (ZcV (bl (Zaz w)) (bl (Zaz w)).length + 1) ∧ IntKind.i64.wrap (ZcV (bl (Zaz w)) (bl (Zaz w)).length + 1) ≤ ((Zaz w).size : Int) then (if (0 : Int) ≤ IntKind.i64.wrap (ZcV (bl (Zaz w)) (bl (Zaz w)).length + 1) ∧ IntKind.i64.wrap (ZcV (bl (Zaz w)) (bl (Zaz w)).length + 1) ≤ ((Zaz w).size : Int) then Zht N (ByteArray.extract (Zaz w) ((IntKind.i64.wrap (ZcV (bl (Zaz w)) (bl (Zaz w)).length + 1)).toNat) (Zaz w).size) fun b4 => k (ByteArray.extract (Zaz w) 0 (((if 0 < ZcV (bl (Zaz w)) (bl (Zaz w)).length then ZcV (bl (Zaz w)) (bl (Zaz w)).length else 0)).toNat)) (ByteArray.extract (Zaz w) ((IntKind.i64.wrap (ZcV (bl (Zaz w)) (bl (Zaz w)).length + 1)).toNat) (Zaz w).size) b4 else none) else none) else none) = r := by
   intro x3 a b e1 e2 e3 e4 e5 hk
   rw [e1, Za5 (x := x3 + 1) (by omega) (by omega)]
   have hm : (0 : Int) ≤ (if 0 < x3 then x3 else 0) ∧ (if 0 < x3 then x3 else 0) ≤ ((Zaz w).size : Int) := by split <;> omega
   have hm2 : (0 : Int) ≤ x3 + 1 ∧ x3 + 1 ≤ ((Zaz w).size : Int) := by omega
   have hext : ByteArray.extract (Zaz w) ((x3 + 1).toNat) (Zaz w).size = ba b := by
    rw [Zch, ZaA, List.take_length, e4]
   have hext2 : ByteArray.extract (Zaz w) 0 (if 0 < x3 then x3 else 0).toNat = ba a := by
    rw [Zch, e5]; rfl
   rw [if_pos hm, if_pos hm2, if_pos hm2, hext, hext2]
   have hbs : (ba b).size ≤ 1048576 := by
    rw [← hext]
    have := ZgO (Zaz w) ((x3 + 1).toNat) (Zaz w).size
    omega
   rw [Zem N hbs (by omega)]
   exact hk
  rcases Zds (cl w) with hc | ⟨C, p, hc⟩
  ·have hb : Zb2 (cl w) = false := by unfold Zb2; rw [hc]; simp
   cases hr : Zbd w with
   | true =>
    have ht : Zaz w = ByteArray.mk #[47] := by unfold Zaz Zbn; rw [hr, hc]; rfl
    refine fin 0 [] [] (by rw [ht]; exact Zjv [] [] (by simp)) (by omega) (by rw [ht]; decide) (by rw [ht]; rfl) (by rw [ht]; rfl) ?_
    rw [show Zcs (ba []) = false from ZrP]
    exact h1 hp hb _ _
   | false =>
    have ht : Zaz w = ByteArray.mk #[46] := by unfold Zaz Zbn; rw [hr, hc]; rfl
    refine fin (-1) [] [46] (by rw [ht]; exact Zkg [46] (by simp)) (by omega) (by rw [ht]; decide) (by rw [ht]; rfl) (by rw [ht]; rfl) ?_
    rw [show Zcs (ba [46]) = false from Zwj]
    exact h1 hp hb _ _
  ·obtain ⟨x3, e1, e2, e3, e4, e5⟩ := Zt5 (Zbd w) C p (fun q hq => ZsK (w := w) (by rw [hc]; exact hq))
   have ht : Zbn (Zbd w) (C ++ [p]) = Zaz w := by unfold Zaz; rw [hc]
   rw [ht] at e1 e3 e4 e5
   refine fin x3 _ _ e1 e2 e3 e4 e5 ?_
   have hpm : p ∈ cl w := by rw [hc]; simp
   rw [Zi6, ZmS hp hpm]
   have hlast : at_ (cl w) ((cl w).length - 1) = p := by rw [hc, ZjV]
   have hne : cl w ≠ [] := by rw [hc]; simp
   have hbase : Zb2 (cl w) = !ZbG p := by unfold Zb2; rw [hlast, decide_eq_true hne]; simp
   cases hd : ZbG p with
   | true => exact h1 hp (by rw [hbase, hd]; rfl) _ _
   | false =>
    have hcut : ZyC w = ba (if Zbd w then Za4 C else (Za4 C).drop 1) := by
     have : (cl w).take ((cl w).length - 1) = C := by rw [hc]; simp
     unfold ZyC; rw [this]
    have := h2 hp (by rw [hbase, hd]; rfl)
    rw [hlast, hcut] at this
    exact this
def ZnI (w : ByteArray) : ByteArray := if Zbv w && Zb2 (cl w) then Zbn (Zbd w) ((cl w).take ((cl w).length - 1)) else ByteArray.mk #[]
def Zgh (w : ByteArray) : Bool := Zbv w && Zb2 (cl w)
theorem Zyy {w : ByteArray} (hw : w.size ≤ 1048576) (hN : 1048580 < N) (k : ByteArray → Bool → Option R) : ZwH N w k = k (ZnI w) (Zgh w) := by
 rw [ZpK]
 unfold Zkw ZnI Zgh
 refine Zzp N hw hN _ _ (fun h => ?_) (fun h h2 a b => ?_) (fun h h2 => ?_)
 ·rw [h]; rfl
 ·rw [h, h2]; rfl
 ·have hsz := ZbX h
  rw [h, h2, Zi3]
  simp only [Bool.not_true, Bool.and_self, if_true]
  rw [Zv5 (by omega)]
  show (match !decide (ZyC w = ByteArray.mk #[]) with
   | true => k (ZyC w) true
   | false => match Zbd w with
    | true => _
    | false => _) = _
  unfold ZyC Zbn
  have hpt : ∀ q ∈ (cl w).take ((cl w).length - 1), Pt q := fun q hq => ZsK (List.mem_of_mem_take hq)
  generalize (cl w).take ((cl w).length - 1) = C at hpt
  cases C with
  | nil =>
   have e : ∀ b : Bool, ba (if b then Za4 [] else (Za4 []).drop 1) = ByteArray.mk #[] := fun b => by cases b <;> rfl
   rw [e, decide_eq_true rfl]
   cases Zbd w <;> rfl
  | cons c C =>
   have hcp : ∀ b : Bool, ba (if b then Za4 (c :: C) else (Za4 (c :: C)).drop 1) = if b then Zby (c :: C) else ZnJ (c :: C) := fun b => by
    cases b
    ·rfl
    ·show ba (Za4 (c :: C)) = Zby (c :: C)
     unfold Zby; rw [if_neg (by simp)]; rfl
   have hne : ba (if Zbd w then Za4 (c :: C) else (Za4 (c :: C)).drop 1) ≠ ByteArray.mk #[] := by
    intro h
    have h3 : (if Zbd w then Za4 (c :: C) else (Za4 (c :: C)).drop 1) = [] := by
     have := congrArg bl h
     rw [ZfU] at this
     exact this
    have h4 := (hpt c (by simp)).1
    rw [ZaA] at h4
    rw [Zbg] at h3
    cases hr : Zbd w with
    | true => rw [hr] at h3; simp at h3
    | false =>
     rw [hr] at h3
     simp only [Bool.false_eq_true, if_false, List.drop_succ_cons, List.drop_zero] at h3
     rw [(List.append_eq_nil_iff.1 h3).1] at h4
     exact h4 rfl
   rw [decide_eq_false hne, hcp]
   cases Zbd w <;> rfl
end
end Go.VM.VL
set_option linter.unusedSimpArgs false
set_option linter.unusedVariables false
namespace Go.VM.VL
open Go
section
variable {R : Type} (N : Nat)
theorem ZxE {w : ByteArray} (h : cl w ≠ []) : at_ (cl w) ((cl w).length - 1) ∈ cl w := ZeC (by
 have : (cl w).length ≠ 0 := fun h2 => h (List.eq_nil_of_length_eq_zero h2)
 omega)
theorem Zit (w : ByteArray) : ZbD (ZlK (cl w)) = !Zb2 (cl w) := by
 unfold ZlK Zb2
 by_cases h : cl w = []
 ·rw [if_pos h, decide_eq_false (by simpa using h)]; rw [ZcA]; rfl
 ·rw [if_neg h, decide_eq_true h]
  cases hd : ZbG (at_ (cl w) ((cl w).length - 1)) with
  | true => simp only [if_true]; rw [ZcA]; rfl
  | false => simp only [Bool.false_eq_true, if_false]; rw [Zjy (ZsK (ZxE h))]; rfl
theorem Zhf {w : ByteArray} (h1 : 0 < w.size) (h2 : w.size ≤ 60) (hN : 1048580 < N) (k : ByteArray → Option R) : ZqR N w k = k (ZlK (cl w)) := by
 rw [Zp2]
 unfold ZlN
 rw [Zhx N (by omega) h1 hN]
 rw [show Zcb ((((at_ (bl w) 0).toNat : Nat) : Int) == 47) (ZaL w) = cl w from rfl]
 have hl := ZlT h2
 rw [ZaO]
 unfold ZlK
 by_cases h : cl w = []
 ·rw [h, if_pos rfl]; rfl
 ·have hlen : (cl w).length ≠ 0 := fun h2 => h (List.eq_nil_of_length_eq_zero h2)
  rw [if_neg h, show (((cl w).length : Int) == 0) = false from beq_false_of_ne (by omega)]
  have hwr : IntKind.i64.wrap (((cl w).length : Int) - 1) = ((cl w).length - 1 : Nat) := by rw [Za5 (by omega) (by omega)]; omega
  simp only [hwr, Int.toNat_natCast, ZbC (show (cl w).length - 1 < (cl w).length by omega), Zae, ZbF]
  rw [if_pos (by omega), if_pos (by omega)]
  show (match ZbG (at_ (cl w) ((cl w).length - 1)) with
   | true => _
   | false => _) = _
  cases ZbG (at_ (cl w) ((cl w).length - 1)) <;> rfl
theorem ZxK {w : ByteArray} (h1 : 0 < w.size) (h2 : w.size ≤ 60) (hN : 1048580 < N) (hne : cl w ≠ []) (k : ByteArray → Option R) :
  Zv9 N w k = k (Zbn (Zbd w) ((cl w).take ((cl w).length - 1))) := by
 rw [Zpk]
 unfold ZkR
 rw [Zhx N (by omega) h1 hN]
 have hl := ZlT h2
 have hlen : (cl w).length ≠ 0 := fun h2 => hne (List.eq_nil_of_length_eq_zero h2)
 have hwr : IntKind.i64.wrap (((cl w).length : Int) - 1) = ((cl w).length - 1 : Nat) := by rw [Za5 (by omega) (by omega)]; omega
 rw [show Zcb ((((at_ (bl w) 0).toNat : Nat) : Int) == 47) (ZaL w) = cl w from rfl, ZaO, hwr, if_pos (by omega), Int.toNat_natCast, List.drop_zero, ← Zhp]
 rw [ZkC N (by rw [List.length_take]; omega) (fun p hp => by have := Zi0 (List.mem_of_mem_take hp); omega) hN, Zv5 h1]
 show (match Zbd w with
  | true => _
  | false => _) = _
 unfold Zbn
 cases hr : Zbd w with
 | true => rfl
 | false =>
  simp only [Bool.false_eq_true, if_false]
  by_cases h : (cl w).length = 1
  ·rw [show (((cl w).length : Int) == 1) = true by rw [h]; rfl, h, show (cl w).take (1 - 1) = [] from rfl, if_pos rfl]
  ·rw [show (((cl w).length : Int) == 1) = false from beq_false_of_ne (by omega)]
   have hc : (cl w).take ((cl w).length - 1) ≠ [] := by
    intro hc
    have := congrArg List.length hc
    rw [List.length_take, List.length_nil] at this
    omega
   have := ZiR ((cl w).take ((cl w).length - 1))
   simp only
   rw [if_pos (by omega), Zs1, ZbY, if_neg hc, if_neg hc]
   rfl
theorem ZmU {C : List ByteArray} (h : Zb2 C = true) : C ≠ [] := by
 unfold Zb2 at h
 rw [Bool.and_eq_true, decide_eq_true_iff] at h
 exact h.1
theorem ZCR {w : ByteArray} (hw : w.size ≤ 1048576) (hN : 1048580 < N) (k : ByteArray → Bool → Option R) : Zu6 N w k = k (ZnI w) (Zgh w) := by
 rw [ZpO]
 unfold ZlO ZnI Zgh
 rw [Zej N hw hN]
 cases hp : Zbv w with
 | false => rfl
 | true =>
  have hsz := ZbX hp
  simp only [Bool.not_true, Bool.true_and]
  rw [Zhf N (by omega) (by omega) hN]
  show (match ZbD (ZlK (cl w)) with
   | true => _
   | false => _) = _
  rw [Zit]
  cases hb : Zb2 (cl w) with
  | false => rfl
  | true =>
   simp only [Bool.not_true, if_true]
   rw [ZxK N (by omega) (by omega) hN (ZmU hb)]
end
end Go.VM.VL
set_option linter.unusedSimpArgs false
set_option linter.unusedVariables false
namespace Go.VM.VL
open Go
section
variable {R : Type} (N : Nat)
theorem ZAP {w : ByteArray} (hw : w.size ≤ 1048576) (hN : 1048580 < N) (k : Bool → Option R) : ZvM N w k = k (Zbv w) := by
 rw [Zou]; unfold Zk3; rw [Zej N hw hN]
theorem ZCK {w : ByteArray} (hw : w.size ≤ 1048576) (hN : 1048576 < N) (k : Bool → Option R) : ZwT N w k = k (Zcs w) := by
 rw [Zpm]; unfold ZkZ; rw [Zyx N hw hN]
def Zgr (w : ByteArray) : ByteArray := if Zbv w && Zb2 (cl w) then at_ (cl w) ((cl w).length - 1) else ByteArray.mk #[]
theorem ZwU {w : ByteArray} (hw : w.size ≤ 1048576) (hN : 1048580 < N) (k : ByteArray → Bool → Option R) : ZwJ N w k = k (Zgr w) (Zgh w) := by
 rw [Zp7]
 unfold ZkM Zgr Zgh
 refine Zzp N hw hN _ _ (fun h => ?_) (fun h h2 a b => ?_) (fun h h2 => ?_)
 ·rw [h]; rfl
 ·rw [h, h2]; rfl
 ·rw [h, h2]; rfl
theorem Zl1 {C : List ByteArray} (h : Zb2 C = true) : ZlK C = at_ C (C.length - 1) ∧ ZbG (at_ C (C.length - 1)) = false := by
 have h1 := ZmU h
 unfold Zb2 at h
 rw [Bool.and_eq_true] at h
 have h2 : ZbG (at_ C (C.length - 1)) = false := by simpa using h.2
 unfold ZlK
 rw [if_neg h1, h2]
 exact ⟨rfl, rfl⟩
theorem ZBK {w : ByteArray} (hw : w.size ≤ 1048576) (hN : 1048580 < N) (k : ByteArray → Bool → Option R) : Zwi N w k = k (Zgr w) (Zgh w) := by
 rw [Zpt]
 unfold Zku Zgr Zgh
 rw [Zej N hw hN]
 cases hp : Zbv w with
 | false => rfl
 | true =>
  have hsz := ZbX hp
  simp only [Bool.not_true, Bool.true_and]
  rw [Zhf N (by omega) (by omega) hN, Zhf N (by omega) (by omega) hN]
  show (match ZbD (ZlK (cl w)) with
   | true => _
   | false => _) = _
  rw [Zit]
  cases hb : Zb2 (cl w) with
  | false => rfl
  | true =>
   simp only [Bool.not_true, if_true]
   rw [(Zl1 hb).1]
theorem Zya {ps : List ByteArray} (hl : ps.length ≤ 1000) (f : Fl) (k : List V → Option R) : ZuZ N (Zay ps) f k = k (Zay ps) := by
 rw [ZpE]
 unfold ZkV Zo8
 rw [ZnX, ZaO]
 exact if_pos (by omega)
def ZdV (w : ByteArray) : List ByteArray := if Zbv w then ZaL w else []
theorem ZlA {w : ByteArray} (hw : w.size ≤ 1048576) (hN : 1048580 < N) (k : List V → Bool → Option R) : Zs3 N w k = k (Zay (ZdV w)) (Zbv w) := by
 rw [Zqj]
 unfold ZkQ ZdV
 rw [Zck N hw hN]
 cases hp : Zbv w with
 | false => rfl
 | true =>
  have hsz := ZbX hp
  have hl := Zc0 w
  simp only [Bool.not_true, if_true]
  rw [ZhK N hw hN, Zya N (by omega)]
theorem ZAR {w : ByteArray} (hw : w.size ≤ 1048576) (hN : 1048580 < N) (k : List V → Bool → Option R) : Zvx N w k = k (Zay (ZdV w)) (Zbv w) := by
 rw [Zpp]
 unfold Zl9 ZdV
 rw [Zej N hw hN]
 cases hp : Zbv w with
 | false => rfl
 | true =>
  simp only [Bool.not_true, if_true]
  rw [Zhw N hw hN]
theorem Zns {ps : List ByteArray} (hl : ps.length ≤ 1048577) (hN : 1048580 < N) (f g : Fl) (k : Bool → Option R) : Zwq N (Zay ps) f (Zay ps) g k = k true := by
 rw [ZoD]
 unfold Zkc
 rw [ZaO, show (((ps.length : Nat) : Int) != (ps.length : Int)) = false by simp]
 refine Zff (l := fun n i => ZeZ N (Zay ps) f (Zay ps) g (ps.length : Int) _ (fun (_ : Unit) => k true) n (i : Int)) (len := ps.length) (fun n i hi => ?_) (fun n => ?_) (show ps.length < N by omega)
 ·simp only [ZeZ, ZcD, Zci hi, Int.natCast_nonneg, if_true, Int.toNat_natCast, ZbC hi, Zae, ZbF, beq_self_eq_true, Bool.not_true, Zba (i := i) (by omega)]
 ·simp only [ZeZ, ZcD, Int.lt_irrefl, decide_false]
theorem Zxe {p : ByteArray → Bool} {L : List ByteArray} : (List.range' 0 L.length).all (fun i => p (at_ L i)) = L.all p := by
 rw [Bool.eq_iff_iff, ZdP, List.all_eq_true]
 exact ⟨fun h q hq => by
  obtain ⟨i, hi, rfl⟩ := List.getElem_of_mem hq
  rw [← ZbZ hi]
  exact h i hi, fun h i hi => h _ (ZeC hi)⟩
theorem ZhY {L : List ByteArray} (hl : L.length ≤ 1048577) (hz : ∀ p ∈ L, p.size ≤ 1048576) (hN : 1048580 < N) (f : Fl) (k : Bool → Option R) :
  ZvY N (Zay L) f k = k (!L.all Zcs) := by
 rw [ZpN]
 unfold ZlD
 rw [ZoB]
 unfold Zj7
 rw [ZaO]
 refine (Zdr (β := Nat) (l := fun n i => ZeW N (Zay L) _ (L.length : Int) _ _ n (i : Int)) (len := L.length) (q := fun i => if !Zcs (at_ L i) then some i else none) (kb := fun i => k (decide ((i : Int) ≥ 0))) (k1 := k (decide ((-1 : Int) ≥ 0))) ?_ ?_ (show L.length < N by omega)).trans ?_
 ·intro n i hi _
  simp only [ZeW, ZcT, Zci hi, Int.natCast_nonneg, if_true, Int.toNat_natCast, ZbC hi, Zae, ZbF]
  rw [ZpQ]
  unfold Zls
  rw [Zem N (hz _ (ZeC hi)) (by omega), Zba (i := i) (by omega)]
  cases Zcs (at_ L i) <;> rfl
 ·intro _ n
  simp only [ZeW, ZcT, Int.lt_irrefl, decide_false]
 ·have := ZdY (q := fun i => !Zcs (at_ L i)) (len := L.length)
  unfold Zd2 at this
  simp only [Bool.not_not] at this
  rw [← Zxe, ← this]
  generalize (List.range' 0 L.length).findSome? _ = o
  cases o <;> rfl
def Zg8 (ps : List ByteArray) : Bool := decide (ps.length ≤ 20) && ps.all Zcs && Zbv (Zby ps)
def Zf3 (ps : List ByteArray) : ByteArray := if Zg8 ps then Zby ps else ByteArray.mk #[]
theorem Zqf {ps : List ByteArray} (hl : ps.length ≤ 40) (hs : ∀ p ∈ ps, p.size ≤ 1048576) (hz : (Zby ps).size ≤ 1048576) (hN : 1048580 < N) (f : Fl) (k : ByteArray → Bool → Option R) : Zsr N (Zay ps) f k = k (Zf3 ps) (Zg8 ps) := by
 rw [Zpa]
 unfold ZlI Zf3 Zg8
 rw [ZaO]
 by_cases h : ps.length ≤ 20
 ·rw [decide_eq_false (p := ((ps.length : Nat) : Int) > 20) (by omega), decide_eq_true h]
  simp only [Bool.true_and]
  rw [ZhY N (by omega) hs hN]
  cases hn : ps.all Zcs with
  | false => rfl
  | true =>
   simp only [Bool.not_true, Bool.true_and]
   rw [ZiQ N (by omega) hs, Zck N hz hN]
   cases hp : Zbv (Zby ps) with
   | false => rfl
   | true =>
    simp only [Bool.not_true, if_true]
    rw [ZiQ N (by omega) hs]
 ·rw [decide_eq_true (p := ((ps.length : Nat) : Int) > 20) (by omega), decide_eq_false h]; rfl
theorem ZAS {ps : List ByteArray} (hl : ps.length ≤ 40) (hs : ∀ p ∈ ps, p.size ≤ 1048576) (hz : (Zby ps).size ≤ 1048576) (hN : 1048580 < N) (f : Fl) (k : ByteArray → Bool → Option R) : Zwm N (Zay ps) f k = k (Zf3 ps) (Zg8 ps) := by
 rw [Zpw]
 unfold ZlY
 rw [ZaO]
 refine (ZjS (l := fun n i => ZeS N (Zay ps) f (Zay ps) f.noOwn (ps.length : Int) (fun _ => k (ByteArray.mk #[]) false) _ n (i : Int)) (len := ps.length) (p := fun i => Zcs (at_ ps i)) (k0 := k (ByteArray.mk #[]) false) (k1 := if decide (ps.length ≤ 20) && Zbv (Zby ps) then k (Zby ps) true else k (ByteArray.mk #[]) false) ?_ ?_ (show ps.length < N by omega)).trans ?_
 ·intro n i hi _
  have hsz := hs _ (ZeC hi)
  simp only [ZeS, ZcJ, Zci hi, Int.natCast_nonneg, if_true, Int.toNat_natCast, ZbC hi, Zae, ZbF, Zyx N hsz (by omega : 1048576 < N)]
  rw [Zba (i := i) (by omega)]
  cases Zcs (at_ ps i) <;> rfl
 ·intro _ n
  simp only [ZeS, ZcJ, Int.lt_irrefl, decide_false]
  by_cases h : ps.length ≤ 20
  ·rw [decide_eq_false (p := ((ps.length : Nat) : Int) > 20) (by omega), decide_eq_true h]
   simp only [Bool.true_and]
   rw [ZkC N (by omega) hs hN, Zej N hz hN]
   cases hp : Zbv (Zby ps) with
   | false => rfl
   | true =>
    simp only [Bool.not_true, if_true]
    rw [ZkC N (by omega) hs hN]
  ·rw [decide_eq_true (p := ((ps.length : Nat) : Int) > 20) (by omega), decide_eq_false h]; rfl
 ·rw [Zxe]
  unfold Zf3 Zg8
  cases ps.all Zcs <;> cases decide (ps.length ≤ 20) <;> cases Zbv (Zby ps) <;> rfl
theorem ZhS {e : List V} (he : ZbN e) (f : Fl) (hN : 100 < N) : ∃ w, w.size ≤ 60 ∧ ∀ (R : Type) (k : ByteArray → Option R), Zvp N e f k = k w := by
 obtain ⟨w, p1, p2⟩ := ZeA N he f.noOwn.noOwn hN
 refine ⟨w, p1, fun R k => ?_⟩
 rw [ZoO]
 unfold ZkY
 exact p2 R _
theorem ZiP {e : List V} (he : ZbN e) (f : Fl) (hN : 100 < N) : ∃ w, w.size ≤ 60 ∧ ∀ (R : Type) (k : ByteArray → Option R), Zwe N e f k = k w := by
 obtain ⟨w, p1, p2⟩ := ZeA N he f.noOwn.noOwn hN
 refine ⟨w, p1, fun R k => ?_⟩
 rw [ZpJ]
 unfold Zk2
 exact p2 R _
theorem Zh2 {e : List V} (he : ZbN e) (f : Fl) : ∃ w, w.size ≤ 60 ∧ ∀ (R : Type) (k : ByteArray → Option R), Zw9 N e f k = k w := by
 obtain ⟨w, a, s, p1, p2, p3, p4⟩ := ZxC N he f.noOwn.noOwn 0 [ByteArray.mk #[], ByteArray.mk #[46], ByteArray.mk #[46, 46], ByteArray.mk #[46, 46, 46], ByteArray.mk #[97], ByteArray.mk #[97, 47, 98], ByteArray.mk #[65], ByteArray.mk #[49, 50, 51, 52, 53, 54, 55, 56], ByteArray.mk #[49, 50, 51, 52, 53, 54, 55, 56, 57], ByteArray.mk #[95, 45, 46]] .sh (by simp) (at0 := 0) (by omega) (by unfold Zbe; omega)
 refine ⟨w, ?_, fun R k => ?_⟩
 ·have : ∀ x ∈ [ByteArray.mk #[], ByteArray.mk #[46], ByteArray.mk #[46, 46], ByteArray.mk #[46, 46, 46], ByteArray.mk #[97], ByteArray.mk #[97, 47, 98], ByteArray.mk #[65], ByteArray.mk #[49, 50, 51, 52, 53, 54, 55, 56], ByteArray.mk #[49, 50, 51, 52, 53, 54, 55, 56, 57], ByteArray.mk #[95, 45, 46]], x.size ≤ 60 := by decide
  exact this w p1
 ·rw [Zpq]
  unfold Zk9
  exact p4 R _
theorem ZyZ {e : List V} (he : ZbN e) (f : Fl) {at0 : Int} (seed : Int) (h0 : 0 ≤ at0) (h1 : at0 + 2 ≤ Zbe) :
  ∃ v at' seed', v.size ≤ 8 ∧ at0 ≤ at' ∧ at' ≤ at0 + 2 ∧ ∀ (R : Type) (k : ByteArray → List V → Fl → Int → Int → Option R), Zwu N e f at0 seed k = k v e f at' seed' := by
 obtain ⟨w, a, s, p1, p2, p3, p4⟩ := ZxC N he f seed [ByteArray.mk #[97], ByteArray.mk #[98], ByteArray.mk #[99], ByteArray.mk #[100, 49], ByteArray.mk #[120, 46, 121], ByteArray.mk #[108, 111, 110, 103, 45, 111, 110, 101]] .sh (by simp) h0 h1
 refine ⟨w, a, s, ?_, p2, p3, fun R k => ?_⟩
 ·have : ∀ x ∈ [ByteArray.mk #[97], ByteArray.mk #[98], ByteArray.mk #[99], ByteArray.mk #[100, 49], ByteArray.mk #[120, 46, 121], ByteArray.mk #[108, 111, 110, 103, 45, 111, 110, 101]], x.size ≤ 8 := by decide
  exact this w p1
 ·rw [Zqs]
  unfold ZlR
  exact p4 R _
theorem Zrs {e : List V} (he : ZbN e) (f : Fl) : ∀ (d n : Nat) (ps : List ByteArray) (at0 seed : Int), d < n → ps.length + d ≤ 100 → (∀ p ∈ ps, p.size ≤ 8) → 0 ≤ at0 → at0 + 2 * d ≤ Zbe →
  ∃ ps' at' seed', ps'.length ≤ ps.length + d ∧ (∀ p ∈ ps', p.size ≤ 8) ∧ at0 ≤ at' ∧ at' ≤ at0 + 2 * d ∧ ∀ (R : Type) (k0 : List V → List V → Fl → Int → Int → Option R), Zgi N k0 n (Zay ps) (d : Int) e f at0 seed = k0 (Zay ps') e f at' seed' := by
 intro d
 induction d with
 | zero =>
  intro n ps at0 seed hn hl hs h0 h1
  obtain ⟨n, rfl⟩ : ∃ m, n = m + 1 := ⟨n - 1, by omega⟩
  exact ⟨ps, at0, seed, by omega, hs, by omega, by omega, fun R k0 => rfl⟩
 | succ d ih =>
  intro n ps at0 seed hn hl hs h0 h1
  unfold Zbe at *
  obtain ⟨n, rfl⟩ : ∃ m, n = m + 1 := ⟨n - 1, by omega⟩
  have hd0 : decide (((d + 1 : Nat) : Int) > 0) = true := decide_eq_true (by omega)
  obtain ⟨u, a1, s1, p1, p2, p3, p4⟩ := ZyZ N he f seed h0 (by unfold Zbe; omega)
  have hwd : IntKind.i64.wrap (((d + 1 : Nat) : Int) - 1) = (d : Int) := by rw [Za5 (by omega) (by omega)]; omega
  obtain ⟨ps', a', s', z1, z2, z3, z4, z5⟩ := ih n (ps ++ [u]) a1 s1 (by omega) (by rw [List.length_append, List.length_singleton]; omega) (fun p hp => by
    rcases List.mem_append.1 hp with h | h
    ·exact hs p h
    ·rw [List.mem_singleton.1 h]; exact p1) (by omega) (by omega)
  rw [List.length_append, List.length_singleton] at z1
  refine ⟨ps', a', s', by omega, z2, by omega, by omega, fun R k0 => ?_⟩
  rw [Zgi, Zdl, hd0]
  refine (p4 R _).trans ?_
  rw [ZaO, if_pos (by omega), hwd, Zdg]
  exact z5 R k0
theorem ZlF {e : List V} {f : Fl} {a s : Int} : ∀ (d n : Nat) (ps : List ByteArray), d < n → d ≤ 9 → ps.length + d ≤ 100 → (∀ p ∈ ps, p.size ≤ 8) →
  ∃ ps', ps'.length ≤ ps.length + d ∧ (∀ p ∈ ps', p.size ≤ 8) ∧ ∀ (R : Type) (k0 : List V → Option R), ZeQ N e f a s k0 n (Zay ps) ((9 - d : Nat) : Int) = k0 (Zay ps') := by
 intro d
 induction d with
 | zero =>
  intro n ps hn hd hl hs
  obtain ⟨n, rfl⟩ : ∃ m, n = m + 1 := ⟨n - 1, by omega⟩
  exact ⟨ps, by omega, hs, fun R k0 => rfl⟩
 | succ d ih =>
  intro n ps hn hd hl hs
  obtain ⟨n, rfl⟩ : ∃ m, n = m + 1 := ⟨n - 1, by omega⟩
  have hd0 : decide (((9 - (d + 1) : Nat) : Int) < 9) = true := decide_eq_true (by omega)
  have hwd : IntKind.i64.wrap (((9 - (d + 1) : Nat) : Int) + 1) = ((9 - d : Nat) : Int) := by rw [Za5 (by omega) (by omega)]; omega
  obtain ⟨ps', z1, z2, z5⟩ := ih n (ps ++ [ByteArray.mk #[108, 111, 110, 103, 45, 111, 110, 101]]) (by omega) (by omega) (by rw [List.length_append, List.length_singleton]; omega) (fun p hp => by
    rcases List.mem_append.1 hp with h | h
    ·exact hs p h
    ·rw [List.mem_singleton.1 h]; decide)
  rw [List.length_append, List.length_singleton] at z1
  refine ⟨ps', by omega, z2, fun R k0 => ?_⟩
  rw [ZeQ, Zdf, hd0]
  simp only
  rw [ZaO, if_pos (by omega), hwd, Zdg]
  exact z5 R k0
theorem Zki {e : List V} (he : ZbN e) (f : Fl) (hN : 100 < N) : ∃ ps : List ByteArray, ps.length ≤ 40 ∧ (∀ p ∈ ps, p.size ≤ 8) ∧ ∀ (R : Type) (k : List V → Option R), Zuk N e f k = k (Zay ps) := by
 obtain ⟨v, a1, s1, p1, p2, p3, p4, p5⟩ := Zgk N he f.noOwn.noOwn 0 5 (at_ := 0) (by omega) (by unfold Zbe; omega)
 obtain ⟨vn, rfl⟩ := Int.eq_ofNat_of_zero_le p1
 obtain ⟨ps, a2, s2, q1, q2, q3, q4, q5⟩ := Zrs N he f.noOwn.noOwn vn N [] a1 s1 (by omega) (by simp; omega) (by simp) (by omega) (by unfold Zbe; omega)
 rw [List.length_nil, Nat.zero_add] at q1
 obtain ⟨b, a3, s3, r1, r2, r3⟩ := ZvT N he f.noOwn.noOwn s2 12 (at_ := a2) (by omega) (by unfold Zbe; omega)
 obtain ⟨u, a4, s4, u1, u2, u3, u4⟩ := ZxC N he f.noOwn.noOwn s3 [ByteArray.mk #[], ByteArray.mk #[46], ByteArray.mk #[46, 46], ByteArray.mk #[97, 47, 98]] .sh (by simp) (at0 := a3) (by omega) (by unfold Zbe; omega)
 have hu : u.size ≤ 8 := by
  have : ∀ x ∈ [ByteArray.mk #[], ByteArray.mk #[46], ByteArray.mk #[46, 46], ByteArray.mk #[97, 47, 98]], x.size ≤ 8 := by decide
  exact this u u1
 obtain ⟨c, a5, s5, c1, c2, c3⟩ := ZvT N he f.noOwn.noOwn s4 30 (at_ := a4) (by omega) (by unfold Zbe; omega)
 obtain ⟨d, a6, s6, d1, d2, d3⟩ := ZvT N he f.noOwn.noOwn s3 30 (at_ := a3) (by omega) (by unfold Zbe; omega)
 have hps2 : ∀ p ∈ ps ++ [u], p.size ≤ 8 := fun p hp => by
  rcases List.mem_append.1 hp with h | h
  ·exact q2 p h
  ·rw [List.mem_singleton.1 h]; exact hu
 have hl2 : (ps ++ [u]).length ≤ 6 := by rw [List.length_append, List.length_singleton]; omega
 obtain ⟨l1, m1, m2, m3⟩ := ZlF N (e := e) (f := f.noOwn.noOwn) (a := a5) (s := s5) 9 N (ps ++ [u]) (by omega) (by omega) (by omega) hps2
 obtain ⟨l2, n1, n2, n3⟩ := ZlF N (e := e) (f := f.noOwn.noOwn) (a := a6) (s := s6) 9 N ps (by omega) (by omega) (by omega) q2
 have go : ∀ (R : Type) (k : List V → Option R), Zuk N e f k = k (Zay (match b with
   | true => match c with
    | true => l1
    | false => ps ++ [u]
   | false => match d with
    | true => l2
    | false => ps)) := fun R k => by
  rw [Zqq]
  unfold Zlz
  refine (p5 R _).trans ((q5 R _).trans ((r3 R _).trans ?_))
  cases b with
  | true =>
   refine (u4 R _).trans ?_
   rw [ZaO, if_pos (by omega)]
   refine (c3 R _).trans ?_
   cases c with
   | true =>
    simp only
    rw [Zdg]
    exact m3 R k
   | false => simp only; rw [Zdg]
  | false =>
   refine (d3 R _).trans ?_
   cases d with
   | true => exact n3 R k
   | false => rfl
 refine ⟨_, ?_, ?_, go⟩
 ·cases b
  ·cases d
   ·show ps.length ≤ 40; omega
   ·show l2.length ≤ 40; omega
  ·cases c
   ·show (ps ++ [u]).length ≤ 40; omega
   ·show l1.length ≤ 40; omega
 ·cases b
  ·cases d
   ·exact q2
   ·exact n2
  ·cases c
   ·exact hps2
   ·exact m2
end
end Go.VM.VL
set_option linter.unusedSimpArgs false
set_option linter.unusedVariables false
namespace Go.VM.VL
open Go
section
variable (N : Nat)
theorem Zx5 {x : ByteArray} (h : Pt x) : Zbd x = false := by
 cases hr : Zbd x with
 | false => rfl
 | true =>
  have h2 := ZgP.1 hr
  cases hb : bl x with
  | nil => exact absurd (by rw [ZaA, hb]; rfl) h.1
  | cons y ys =>
   rw [hb] at h2
   exact absurd h2 (h.2 y (by rw [hb]; simp))
theorem ZAF : Zbd (ByteArray.mk #[46]) = false := rfl
theorem ZwB {c : ByteArray} {C : List ByteArray} (hc : Pt c) : Zbd (ZnJ (c :: C)) = false := by
 cases h : Zbd (ZnJ (c :: C)) with
 | false => rfl
 | true =>
  have h2 := ZgP.1 h
  rw [Zfk] at h2
  cases hb : bl c with
  | nil => exact absurd (by rw [ZaA, hb]; rfl) hc.1
  | cons x xs =>
   rw [hb] at h2
   exact absurd h2 (hc.2 x (by rw [hb]; simp))
theorem Zhc {root : Bool} {D : List ByteArray} (h : ∀ q ∈ D, Pt q) : Zbd (Zbn root D) = root := by
 unfold Zbn
 cases root with
 | true =>
  rw [if_pos rfl, ZgP, ZbY]
  split
  ·rfl
  ·cases D with
   | nil => contradiction
   | cons c C => rw [Zbg]; rfl
 | false =>
  simp only [Bool.false_eq_true, if_false]
  cases D with
  | nil => rfl
  | cons c C => rw [if_neg (by simp)]; exact ZwB (h c (by simp))
theorem Zup : ZaL (ByteArray.mk #[46]) = [ByteArray.mk #[46]] := by
 unfold ZaL ZaW
 show List.filter (fun p => !ZbD p) [ba [46]] = _
 have : ZbD (ba [46]) = false := by rw [ZcA]; rfl
 simp [List.filter, this]; rfl
theorem Zuc : ZhX (ByteArray.mk #[46]) = true := by decide +kernel
theorem Zed {root : Bool} {D : List ByteArray} (h : ∀ q ∈ D, Pt q) : ZaL (Zbn root D) = if root = false ∧ D = [] then [ByteArray.mk #[46]] else D := by
 unfold Zbn
 cases root with
 | true => rw [if_pos rfl, Zgc h, if_neg (by simp)]
 | false =>
  simp only [Bool.false_eq_true, if_false, true_and]
  by_cases h0 : D = []
  ·rw [if_pos h0, if_pos h0, Zup]
  ·rw [if_neg h0, if_neg h0, ZtM h0 h]
theorem Zl0 {root : Bool} {D : List ByteArray} (h : ∀ q ∈ D, Pt q) (hc : Cln root D) : Zcb root (ZaL (Zbn root D)) = D := by
 rw [Zed h]
 split
 ·rename_i h0
  rw [h0.2]
  show Zbf root [] (ByteArray.mk #[46]) = []
  unfold Zbf
  rw [Zuc]; rfl
 ·exact Zrh hc
theorem ZjM {root : Bool} {D : List ByteArray} (h : ∀ q ∈ D, Pt q) : 1 ≤ (Zbn root D).size := by
 unfold Zbn
 cases root with
 | true => exact ZiR D
 | false =>
  simp only [Bool.false_eq_true, if_false]
  cases D with
  | nil => decide
  | cons c C =>
   have := (h c (by simp)).1
   rw [ZaA] at this
   rw [if_neg (by simp), ZaA, Zfk, List.length_append]
   omega
theorem ZdB {w : ByteArray} (h1 : 1 ≤ w.size) (h2 : w.size ≤ 60) (h : ∀ p ∈ ZaL w, Zcn p = true) : Zbv w = true := by
 unfold Zbv
 rw [Bool.and_eq_true, List.all_eq_true, Zi7]
 exact ⟨h, by omega⟩
theorem ZlZ {root : Bool} {D : List ByteArray} (h : ∀ q ∈ D, Pt q) (hp : ∀ q ∈ D, Zcn q = true) (hs : (Zbn root D).size ≤ 60) : Zbv (Zbn root D) = true := by
 refine ZdB (ZjM h) hs ?_
 rw [Zed h]
 split
 ·intro p hp
  rw [List.mem_singleton.1 hp]; exact Zi4 Zuc
 ·exact hp
theorem ZrN {root : Bool} {D : List ByteArray} (h : ∀ q ∈ D, Pt q) (hc : Cln root D) : Zaz (Zbn root D) = Zbn root D := by
 show Zbn (Zbd (Zbn root D)) (Zcb (Zbd (Zbn root D)) (ZaL (Zbn root D))) = _
 rw [Zhc h, Zl0 h hc]
theorem ZuU {root : Bool} {C : List ByteArray} {x : ByteArray} (h : Cln root (C ++ [x])) (hx : ZbG x = false) : Cln root C := by
 obtain ⟨d, m, he, hd, hm, hr⟩ := h.ex
 rcases Zds m with rfl | ⟨m', y, rfl⟩
 ·rw [List.append_nil] at he
  have := hd x (by rw [← he]; simp)
  rw [hx] at this; cases this
 ·rw [← List.append_assoc] at he
  obtain ⟨h1, h2⟩ := List.append_inj' he rfl
  exact ⟨d, m', h1, hd, fun p hp => hm p (by simp [hp]), hr⟩
theorem ZsA {x : ByteArray} (h : Zcn x = true) : x.size ≤ 8 := by
 unfold Zcn at h
 rw [Bool.and_eq_true, Zi7] at h
 omega
theorem Ziu (a r : ByteArray) : ZaL ((a ++ ByteArray.mk #[47]) ++ r) = ZaL a ++ ZaL r := by
 unfold ZaL ZaW
 rw [Zhl, Zhl, List.append_assoc, show bl (ByteArray.mk #[47]) ++ bl r = 47 :: bl r from rfl, Zhq, List.map_append, List.filter_append]
theorem ZhE {x : ByteArray} (h : Pt x) : ZaL x = [x] := by
 unfold ZaL ZaW
 rw [Zfv 47 _ h.2]
 show List.filter (fun p => !ZbD p) [x] = [x]
 rw [List.filter_cons, Zjy h]; rfl
theorem Zqz {a : ByteArray} (h0 : 0 < a.size) (r : ByteArray) : Zbd ((a ++ ByteArray.mk #[47]) ++ r) = Zbd a := by
 rw [ZaA] at h0
 unfold Zbd
 rw [Zhl, Zhl]
 cases ha : bl a with
 | nil => rw [ha] at h0; simp at h0
 | cons b l => rfl
theorem ZeD {root : Bool} {C : List ByteArray} {x : ByteArray} (hs : (Zbn root (C ++ [x])).size ≤ 60) (hx : x.size ≤ 8) : ((Zbn root C ++ ByteArray.mk #[47]) ++ x).size ≤ 60 := by
 have h1 : (ByteArray.mk #[47]).size = 1 := rfl
 have h2 : (ByteArray.mk #[46]).size = 1 := rfl
 rw [Zbb, Zbb, h1]
 unfold Zbn at *
 have hne : C ++ [x] ≠ [] := by simp
 have hfl : (Za4 (C ++ [x])).length = (Za4 C).length + (x.size + 1) := by
  rw [ZdC, Zbg, Zei, List.append_nil, List.length_append, List.length_cons, ← ZaA]
 cases root with
 | true =>
  simp only [if_true] at *
  rw [ZaA, ZbY, if_neg hne, hfl] at hs
  rw [ZaA, ZbY]
  split
  ·simp; omega
  ·omega
 | false =>
  simp only [Bool.false_eq_true, if_false] at *
  rw [if_neg hne] at hs
  unfold ZnJ at hs
  rw [ZaA, ZfU, List.length_drop, hfl] at hs
  split
  ·omega
  ·unfold ZnJ
   rename_i hC
   cases C with
   | nil => exact absurd rfl hC
   | cons c C =>
    have : 1 ≤ (Za4 (c :: C)).length := by rw [Zbg]; simp
    rw [ZaA, ZfU, List.length_drop]
    omega
theorem Ztr {root : Bool} {C : List ByteArray} {x : ByteArray} (h : ∀ q ∈ C ++ [x], Pt q) (hp : ∀ q ∈ C ++ [x], Zcn q = true) (hc : Cln root (C ++ [x])) (hx : Nm x) (hs : (Zbn root (C ++ [x])).size ≤ 60) :
  Zhs (Zbn root C) x = (Zbn root C ++ ByteArray.mk #[47]) ++ x ∧ Zbv (Zhs (Zbn root C) x) = true ∧ Zaz (Zhs (Zbn root C) x) = Zbn root (C ++ [x]) := by
 have hC : ∀ q ∈ C, Pt q := fun q hq => h q (by simp [hq])
 have hxp := h x (by simp)
 have e : Zhs (Zbn root C) x = (Zbn root C ++ ByteArray.mk #[47]) ++ x := by
  unfold Zhs; rw [Zx5 hxp]; rfl
 have hpos := ZjM (root := root) hC
 have hr : Zbd ((Zbn root C ++ ByteArray.mk #[47]) ++ x) = root := by rw [Zqz hpos, Zhc hC]
 refine ⟨e, ?_, ?_⟩
 ·rw [e]
  refine ZdB (by rw [Zbb, Zbb]; omega) (ZeD hs (ZsA (hp x (by simp)))) ?_
  rw [Ziu, ZhE hxp, Zed hC]
  intro p hpm
  rcases List.mem_append.1 hpm with hm | hm
  ·split at hm
   ·rw [List.mem_singleton.1 hm]; exact Zi4 Zuc
   ·exact hp p (by simp [hm])
  ·rw [List.mem_singleton.1 hm]; exact hp x (by simp)
 ·rw [e]
  show Zbn (Zbd ((Zbn root C ++ ByteArray.mk #[47]) ++ x)) (Zcb (Zbd ((Zbn root C ++ ByteArray.mk #[47]) ++ x)) (ZaL ((Zbn root C ++ ByteArray.mk #[47]) ++ x))) = _
  rw [hr, Ziu, ZhE hxp]
  congr 1
  have := Zl0 hC (ZuU hc hx.2)
  unfold Zcb at *
  rw [List.foldl_append, this]
  show Zbf root C x = _
  rw [ZfV hx]
theorem Zid {ps : List ByteArray} (h : ps.length ≤ 40) (h8 : ∀ p ∈ ps, p.size ≤ 8) : (Zby ps).size ≤ 1048576 := by
 rw [ZaA, ZbY]
 split
 ·simp
 ·have : ∀ l : List ByteArray, (∀ p ∈ l, p.size ≤ 8) → (Za4 l).length ≤ 9 * l.length := by
   intro l
   induction l with
   | nil => intro _; exact Nat.le_refl _
   | cons p l ih =>
    intro hl
    have h1 := ih fun q hq => hl q (by simp [hq])
    have h2 := hl p (by simp)
    rw [ZaA] at h2
    rw [Zbg, List.length_cons, List.length_append, List.length_cons]
    omega
  have := this ps h8
  omega
theorem ZC3 {R : Type} {e1 : List V} {f2 : Fl} {e3 : List V} {f4 : Fl} (h1 : ZbN e1) (hN : 1048580 < N) {j : V → V → V → V → V → V → V → V → V → V → V → V → V → V → V → V → V → V → V → V → V → V → V → V → V → V → V → V → V → V → V → V → V → V → V → V → V → V → V → V → V → V → V → V → V → V → V → V → V → V → V → V → V → V → V → V → V → V → V → V → V → V → V → V → V → V → V → V → V → V → V → V → V → V → V → V → V → V → V → V → V → V → V → V → V → V → V → V → V → V → V → V → V → V → V → V → V → V → V → V → V → V → V → V → V → V → V → V → V → V → V → V → V → V → V → V → V → V → V → V → V → V → V → V → V → V → V → V → V → V → V → V → V → V → V → V → V → V → V → V → V → V → V → V → V → V → V → V → V → V → V → V → Option R} {k : Bool → Option R} {r : Option R} (hj : ∀ d0 d1 d2 d3 d4 d5 d6 d7 d8 d9 d10 d11 d12 d13 d14 d15 d16 d17 d18 d19 d20 d21 d22 d23 d24 d25 d26 d27 d28 d29 d30 d31 d32 d33 d34 d35 d36 d37 d38 d39 d40 d41 d42 d43 d44 d45 d46 d47 d48 d49 d50 d51 d52 d53 d54 d55 d56 d57 d58 d59 d60 d61 d62 d63 d64 d65 d66 d67 d68 d69 d70 d71 d72 d73 d74 d75 d76 d77 d78 d79 d80 d81 d82 d83 d84 d85 d86 d87 d88 d89 d90 d91 d92 d93 d94 d95 d96 d97 d98 d99 d100 d101 d102 d103 d104 d105 d106 d107 d108 d109 d110 d111 d112 d113 d114 d115 d116 d117 d118 d119 d120 d121 d122 d123 d124 d125 d126 d127 d128 d129 d130 d131 d132 d133 d134 d135 d136 d137 d138 d139 d140 d141 d142 d143 d144 d145 d146 d147 d148 d149 d150 d151 : V, j d0 d1 d2 d3 d4 d5 d6 d7 d8 d9 d10 d11 d12 d13 d14 d15 d16 d17 d18 d19 d20 d21 d22 d23 d24 d25 d26 d27 d28 d29 d30 d31 d32 d33 d34 d35 d36 d37 d38 d39 d40 d41 d42 d43 d44 d45 d46 d47 d48 d49 d50 d51 d52 d53 d54 d55 d56 d57 d58 d59 d60 d61 d62 d63 d64 d65 d66 d67 d68 d69 d70 d71 d72 d73 d74 d75 d76 d77 d78 d79 d80 d81 d82 d83 d84 d85 d86 d87 d88 d89 d90 d91 d92 d93 d94 d95 d96 d97 d98 d99 d100 d101 d102 d103 d104 d105 d106 d107 d108 d109 d110 d111 d112 d113 d114 d115 d116 d117 d118 d119 d120 d121 d122 d123 d124 d125 d126 d127 d128 d129 d130 d131 d132 d133 d134 d135 d136 d137 d138 d139 d140 d141 d142 d143 d144 d145 d146 d147 d148 d149 d150 d151 = r) (hk : k true = r) : Zkv N e1 f2 e3 f4 j k = r := by
 unfold Zkv
 have hbig : ∀ K : Bool → Option R, K true = r → K false = r → ZvD N e1 f2.noOwn.noOwn e3 f4.noOwn.noOwn K = r := by
  intro K k1 k2
  rw [Zp3]
  unfold Zly
  cases decide ((e1.length : Int) > 1048576) with
  | true => exact k1
  | false =>
   simp only
   generalize decide ((e3.length : Int) > IntKind.i64.wrap (1048576 - (e1.length : Int))) = b
   cases b
   ·exact k2
   ·exact k1
 refine hbig _ hk ?_
 simp only
 obtain ⟨w, q1, q2⟩ := ZhS N h1 f2.noOwn.noOwn (by omega)
 refine (q2 R _).trans ?_
 have hw : w.size ≤ 1048576 := by omega
 rw [ZdH N hw hN, ZB1 N hw hN, ZwU N hw hN, ZBK N hw hN, Zyy N hw hN, ZCR N hw hN, Zck N hw hN, ZAP N hw hN, Zck N hw hN]
 simp only [beq_self_eq_true, Bool.not_true]
 cases hp : Zbv w with
 | false => exact hj _ _ _ _ _ _ _ _ _ _ _ _ _ _ _ _ _ _ _ _ _ _ _ _ _ _ _ _ _ _ _ _ _ _ _ _ _ _ _ _ _ _ _ _ _ _ _ _ _ _ _ _ _ _ _ _ _ _ _ _ _ _ _ _ _ _ _ _ _ _ _ _ _ _ _ _ _ _ _ _ _ _ _ _ _ _ _ _ _ _ _ _ _ _ _ _ _ _ _ _ _ _ _ _ _ _ _ _ _ _ _ _ _ _ _ _ _ _ _ _ _ _ _ _ _ _ _ _ _ _ _ _ _ _ _ _ _ _ _ _ _ _ _ _ _ _ _ _ _ _ _ _
 | true =>
  have hsz := ZbX hp
  have hpt : ∀ q ∈ cl w, Pt q := fun q hq => ZsK hq
  have hpa : ∀ q ∈ cl w, Zcn q = true := fun q hq => Zgv hp hq
  have hcl : Cln (Zbd w) (cl w) := Ztc _ _
  have hts := Zlf (w := w) (by omega)
  have hct : ZdW w = Zaz w := by unfold ZdW; rw [hp]; rfl
  have hcs : (Zaz w).size ≤ 60 := by omega
  have hpc : Zbv (Zaz w) = true := ZlZ hpt hpa hcs
  have hcc : ZdW (Zaz w) = Zaz w := by unfold ZdW; rw [hpc]; exact ZrN hpt hcl
  have hrc : Zbd (Zaz w) = Zbd w := Zhc hpt
  have hpos : 1 ≤ (Zaz w).size := ZjM hpt
  have hlen := ZlT hsz.2
  have hJ : Zgh w = true → (∀ K : ByteArray → Bool → Option R, Zmp N (ZnI w) (Zgr w) K = K (Zaz w) true) ∧ ∀ K : Bool → Option R, Zht N (Zgr w) K = K true := by
   intro hd
   have hb : Zb2 (cl w) = true := by unfold Zgh at hd; rw [hp] at hd; exact hd
   rcases Zds (cl w) with h0 | ⟨C, x, h0⟩
   ·exact absurd h0 (ZmU hb)
   ·have hlast : at_ (cl w) ((cl w).length - 1) = x := by rw [h0, ZjV]
    have htake : (cl w).take ((cl w).length - 1) = C := by rw [h0]; simp
    have hbo : Zgr w = x := by unfold Zgr; rw [hp, hb, hlast]; rfl
    have hdo : ZnI w = Zbn (Zbd w) C := by unfold ZnI; rw [hp, hb, htake]; rfl
    have hxd : ZbG x = false := by have := (Zl1 hb).2; rw [hlast] at this; exact this
    have hxm : x ∈ cl w := by rw [h0]; simp
    have hxn : Nm x := ⟨Zig hxm, hxd⟩
    have htext : Zaz w = Zbn (Zbd w) (C ++ [x]) := by unfold Zaz; rw [h0]
    rw [h0] at hpt hpa hcl
    rw [htext] at hcs
    obtain ⟨j1, j2, j3⟩ := Ztr hpt hpa hcl hxn hcs
    have hxs := ZsA (hpa x (by simp))
    have hdp : Zbv (Zbn (Zbd w) C) = true := by
     refine ZlZ (fun q hq => hpt q (by simp [hq])) (fun q hq => hpa q (by simp [hq])) ?_
     have := ZeD hcs hxs
     rw [Zbb, Zbb] at this
     omega
    have hds := ZbX hdp
    have hxp : Zbv x = true := by
     have h8 := (hpt x (by simp)).1
     refine ZdB (by omega) (by omega) ?_
     rw [ZhE (hpt x (by simp))]
     intro p hpm
     rw [List.mem_singleton.1 hpm]; exact hpa x (by simp)
    have hjc : ZdW (Zhs (Zbn (Zbd w) C) x) = Zaz w := by unfold ZdW; rw [j2, htext]; exact j3
    rw [hbo, hdo]
    refine ⟨fun K => ?_, fun K => ?_⟩
    ·rw [Zsd N (by omega) (by omega) hN, hdp, hxp, j2, hjc]; rfl
    ·rw [Zem N (by omega) (by omega), ZmS hp hxm, hxd]; rfl
  rw [hct]
  simp only
  rw [ZdH N (by omega) hN, ZlA N (by omega) hN, hpc, hcc]
  have hpo : ZdV (Zaz w) = ZaL (Zaz w) := by unfold ZdV; rw [hpc]; rfl
  rw [hpo]
  simp only [beq_self_eq_true, Bool.not_true]
  rw [Zv5 (by omega)]
  show (match Zbd (Zaz w) with
   | true => _
   | false => _) = _
  rw [hrc]
  cases hr : Zbd w with
  | false =>
   simp only
   cases hd : Zgh w with
   | false => exact hj _ _ _ _ _ _ _ _ _ _ _ _ _ _ _ _ _ _ _ _ _ _ _ _ _ _ _ _ _ _ _ _ _ _ _ _ _ _ _ _ _ _ _ _ _ _ _ _ _ _ _ _ _ _ _ _ _ _ _ _ _ _ _ _ _ _ _ _ _ _ _ _ _ _ _ _ _ _ _ _ _ _ _ _ _ _ _ _ _ _ _ _ _ _ _ _ _ _ _ _ _ _ _ _ _ _ _ _ _ _ _ _ _ _ _ _ _ _ _ _ _ _ _ _ _ _ _ _ _ _ _ _ _ _ _ _ _ _ _ _ _ _ _ _ _ _ _ _ _ _ _ _
   | true =>
    simp only
    rw [(hJ hd).1, (hJ hd).2]
    simp only [beq_self_eq_true, Bool.not_true]
    exact hj _ _ _ _ _ _ _ _ _ _ _ _ _ _ _ _ _ _ _ _ _ _ _ _ _ _ _ _ _ _ _ _ _ _ _ _ _ _ _ _ _ _ _ _ _ _ _ _ _ _ _ _ _ _ _ _ _ _ _ _ _ _ _ _ _ _ _ _ _ _ _ _ _ _ _ _ _ _ _ _ _ _ _ _ _ _ _ _ _ _ _ _ _ _ _ _ _ _ _ _ _ _ _ _ _ _ _ _ _ _ _ _ _ _ _ _ _ _ _ _ _ _ _ _ _ _ _ _ _ _ _ _ _ _ _ _ _ _ _ _ _ _ _ _ _ _ _ _ _ _ _ _
  | true =>
   have hparts : ZaL (Zaz w) = cl w := by
    have := Zed (root := Zbd w) hpt
    rw [if_neg (by rw [hr]; simp)] at this
    exact this
   have hpath : Zby (cl w) = Zaz w := by unfold Zaz Zbn; rw [hr]; rfl
   rw [hparts]
   simp only
   rw [Zqf N (by omega) (fun p hp => by have := Zi0 hp; omega) (by rw [hpath]; omega) hN, ZaO]
   by_cases h20 : (cl w).length ≤ 20
   ·have hok : Zg8 (cl w) = true := by
     unfold Zg8
     rw [hpath, hpc, decide_eq_true h20, Bool.and_true, Bool.true_and, List.all_eq_true]
     intro p hpm
     rw [ZmS hp hpm, ZxM hr hpm]; rfl
    have hpb : Zf3 (cl w) = Zaz w := by unfold Zf3; rw [hok, hpath]; rfl
    rw [decide_eq_true (by omega), hok, hpb]
    simp only [beq_self_eq_true, Bool.not_true]
    cases hd : Zgh w with
    | false => exact hj _ _ _ _ _ _ _ _ _ _ _ _ _ _ _ _ _ _ _ _ _ _ _ _ _ _ _ _ _ _ _ _ _ _ _ _ _ _ _ _ _ _ _ _ _ _ _ _ _ _ _ _ _ _ _ _ _ _ _ _ _ _ _ _ _ _ _ _ _ _ _ _ _ _ _ _ _ _ _ _ _ _ _ _ _ _ _ _ _ _ _ _ _ _ _ _ _ _ _ _ _ _ _ _ _ _ _ _ _ _ _ _ _ _ _ _ _ _ _ _ _ _ _ _ _ _ _ _ _ _ _ _ _ _ _ _ _ _ _ _ _ _ _ _ _ _ _ _ _ _ _ _
    | true =>
     simp only
     rw [(hJ hd).1, (hJ hd).2]
     simp only [beq_self_eq_true, Bool.not_true]
     exact hj _ _ _ _ _ _ _ _ _ _ _ _ _ _ _ _ _ _ _ _ _ _ _ _ _ _ _ _ _ _ _ _ _ _ _ _ _ _ _ _ _ _ _ _ _ _ _ _ _ _ _ _ _ _ _ _ _ _ _ _ _ _ _ _ _ _ _ _ _ _ _ _ _ _ _ _ _ _ _ _ _ _ _ _ _ _ _ _ _ _ _ _ _ _ _ _ _ _ _ _ _ _ _ _ _ _ _ _ _ _ _ _ _ _ _ _ _ _ _ _ _ _ _ _ _ _ _ _ _ _ _ _ _ _ _ _ _ _ _ _ _ _ _ _ _ _ _ _ _ _ _ _
   ·rw [decide_eq_false (by omega)]
    simp only
    cases hd : Zgh w with
    | false => exact hj _ _ _ _ _ _ _ _ _ _ _ _ _ _ _ _ _ _ _ _ _ _ _ _ _ _ _ _ _ _ _ _ _ _ _ _ _ _ _ _ _ _ _ _ _ _ _ _ _ _ _ _ _ _ _ _ _ _ _ _ _ _ _ _ _ _ _ _ _ _ _ _ _ _ _ _ _ _ _ _ _ _ _ _ _ _ _ _ _ _ _ _ _ _ _ _ _ _ _ _ _ _ _ _ _ _ _ _ _ _ _ _ _ _ _ _ _ _ _ _ _ _ _ _ _ _ _ _ _ _ _ _ _ _ _ _ _ _ _ _ _ _ _ _ _ _ _ _ _ _ _ _
    | true =>
     simp only
     rw [(hJ hd).1, (hJ hd).2]
     simp only [beq_self_eq_true, Bool.not_true]
     exact hj _ _ _ _ _ _ _ _ _ _ _ _ _ _ _ _ _ _ _ _ _ _ _ _ _ _ _ _ _ _ _ _ _ _ _ _ _ _ _ _ _ _ _ _ _ _ _ _ _ _ _ _ _ _ _ _ _ _ _ _ _ _ _ _ _ _ _ _ _ _ _ _ _ _ _ _ _ _ _ _ _ _ _ _ _ _ _ _ _ _ _ _ _ _ _ _ _ _ _ _ _ _ _ _ _ _ _ _ _ _ _ _ _ _ _ _ _ _ _ _ _ _ _ _ _ _ _ _ _ _ _ _ _ _ _ _ _ _ _ _ _ _ _ _ _ _ _ _ _ _ _ _
theorem ZC5 {R : Type} {e1 : List V} {f2 : Fl} {e3 : List V} {f4 : Fl} (h3 : ZbN e3) (hN : 1048580 < N) (k : Bool → Option R) : ZpL N e1 f2 e3 f4 k = k true := by
 unfold ZpL
 obtain ⟨ps, a1, a2, a3⟩ := Zki N h3 f4.noOwn.noOwn (by omega)
 obtain ⟨q, b1, b2⟩ := ZiP N h3 f4.noOwn.noOwn (by omega)
 obtain ⟨n, c1, c2⟩ := Zh2 N h3 f4.noOwn.noOwn
 refine (a3 R _).trans ?_
 have hs : ∀ p ∈ ps, p.size ≤ 1048576 := fun p hp => by have := a2 p hp; omega
 rw [Zqf N a1 hs (Zid a1 a2) hN, ZAS N a1 hs (Zid a1 a2) hN]
 refine (b2 R _).trans ?_
 rw [ZlA N (by omega) hN, ZAR N (by omega) hN]
 refine (c2 R _).trans ?_
 simp only [beq_self_eq_true]
 have hl : (ZdV q).length ≤ 1048577 := by
  unfold ZdV
  have := Zc0 q
  split
  ·omega
  ·simp
 rw [Zns N hl hN]
 simp only
 rw [Zem N (by omega) (by omega), ZCK N (by omega) (by omega)]
 simp only [beq_self_eq_true]
theorem law_FnPaths {R : Type} {e1 : List V} {f2 : Fl} {e3 : List V} {f4 : Fl} (h1 : ZbN e1) (h3 : ZbN e3) (hN : 1048580 < N) (k : Bool → Option R) : ZhR N e1 f2 e3 f4 k = k true := by
 unfold ZhR
 refine ZC3 N h1 hN ?_ rfl
 intros
 exact ZC5 N h3 hN k
end
end Go.VM.VL
