/- The plain laws of the printed functions, from the bottom up to the law itself. -/
import Derived.Test.YteekbhpdalbofaaGreatDoorXRP
import Derived.Test.YteekbhpdalbofaaGreatDoorTLib
import Derived.Test.YteekbhpdalbofaaGreatDoorVmZe
set_option linter.unusedSimpArgs false
set_option linter.unusedVariables false
namespace Go.VM.VL
section loops
variable {R β : Type} {l : Nat → Nat → Option R} {len : Nat} {k0 k1 : Option R}
theorem Zov (hs : ∀ n i, i < len → l (n + 1) i = l n (i + 1)) (he : ∀ n, l (n + 1) len = k1) : ∀ (d n i : Nat), i + d = len → d < n → l n i = k1 := by
 intro d
 induction d with
 | zero =>
  intro n i hi hn
  obtain ⟨n, rfl⟩ : ∃ m, n = m + 1 := ⟨n - 1, by omega⟩
  obtain rfl : i = len := by omega
  exact he n
 | succ d ih =>
  intro n i hi hn
  obtain ⟨n, rfl⟩ : ∃ m, n = m + 1 := ⟨n - 1, by omega⟩
  rw [hs n i (by omega)]
  exact ih n (i + 1) (by omega) (by omega)
theorem ZbI (hs : ∀ n i, i < len → l (n + 1) i = l n (i + 1)) (he : ∀ n, l (n + 1) len = k1) {N : Nat} (hN : len < N) : l N 0 = k1 :=
 Zov hs he len N 0 (by omega) hN
theorem Zsw {q : Nat → Option β} {kb : β → Option R} (hs : ∀ n i, i < len → (∀ j, j < i → q j = none) → l (n + 1) i = match q i with | some b => kb b | none => l n (i + 1)) (he : (∀ j, j < len → q j = none) → ∀ n, l (n + 1) len = k1) :
  ∀ (d n i : Nat), i + d = len → d < n → (∀ j, j < i → q j = none) → l n i = match (List.range' i d).findSome? q with | some b => kb b | none => k1 := by
 intro d
 induction d with
 | zero =>
  intro n i hi hn hq
  obtain ⟨n, rfl⟩ : ∃ m, n = m + 1 := ⟨n - 1, by omega⟩
  obtain rfl : i = len := by omega
  rw [he hq n]; rfl
 | succ d ih =>
  intro n i hi hn hq
  obtain ⟨n, rfl⟩ : ∃ m, n = m + 1 := ⟨n - 1, by omega⟩
  rw [hs n i (by omega) hq, List.range'_succ, List.findSome?_cons]
  cases h : q i with
  | none => exact ih n (i + 1) (by omega) (by omega) fun j hj => (by
    rcases Nat.lt_or_ge j i with h2 | h2
    ·exact hq j h2
    ·obtain rfl : j = i := by omega
     exact h)
  | some b => rfl
theorem Zb2 {q : Nat → Option β} {kb : β → Option R} (hs : ∀ n i, i < len → (∀ j, j < i → q j = none) → l (n + 1) i = match q i with | some b => kb b | none => l n (i + 1)) (he : (∀ j, j < len → q j = none) → ∀ n, l (n + 1) len = k1) {N : Nat} (hN : len < N) :
  l N 0 = match (List.range' 0 len).findSome? q with | some b => kb b | none => k1 :=
 Zsw hs he len N 0 (by omega) hN fun j hj => absurd hj (by omega)
theorem Zcu {p : Nat → Bool} (hs : ∀ n i, i < len → (∀ j, j < i → p j = true) → l (n + 1) i = if p i then l n (i + 1) else k0) (he : (∀ j, j < len → p j = true) → ∀ n, l (n + 1) len = k1) {N : Nat} (hN : len < N) :
  l N 0 = if (List.range' 0 len).all p then k1 else k0 := by
 have := Zb2 (l := l) (len := len) (k1 := k1) (q := fun i => if p i then none else some ()) (kb := fun _ => k0)
  (fun n i hi hq => by
   rw [hs n i hi fun j hj => by
    have := hq j hj
    cases hp : p j with
    | true => rfl
    | false => simp [hp] at this]
   cases p i <;> rfl)
  (fun hq n => he (fun j hj => by
   have := hq j hj
   cases hp : p j with
   | true => rfl
   | false => simp [hp] at this) n) hN
 rw [this]
 generalize List.range' 0 len = L
 clear this hs he
 induction L with
 | nil => rfl
 | cons a L ih =>
  rw [List.findSome?_cons, List.all_cons]
  cases hp : p a with
  | false => simp
  | true => simpa using ih
theorem Zbi {p : Nat → Bool} {len : Nat} : (List.range' 0 len).all p = true ↔ ∀ i, i < len → p i = true := by
 rw [List.all_eq_true]
 exact ⟨fun h i hi => h i (by rw [List.mem_range']; exact ⟨i, hi, by omega⟩), fun h i hi => by
  rw [List.mem_range'] at hi
  obtain ⟨j, hj, rfl⟩ := hi
  exact h _ (by omega)⟩
theorem ZcI {q : Nat → Option β} {len : Nat} : (List.range' 0 len).findSome? q = none ↔ ∀ i, i < len → q i = none := by
 rw [List.findSome?_eq_none_iff]
 exact ⟨fun h i hi => h i (by rw [List.mem_range']; exact ⟨i, hi, by omega⟩), fun h i hi => by
  rw [List.mem_range'] at hi
  obtain ⟨j, hj, rfl⟩ := hi
  exact h _ (by omega)⟩
end loops
theorem ZdX {α β : Type} (f : α → β) (l : List α) (i : Nat) : nth (l.map f) i = (nth l i).map f := by rw [Zal, Zal, List.getElem?_map]
theorem ZAh {α β : Type} (f : α → β) (l : List α) (i : Nat) (v : α) : Za3 (l.map f) i (f v) = (Za3 l i v).map f := by rw [Zby, Zby, List.map_set]
theorem Zfl {α : Type} {l : List α} {i : Nat} (h : i < l.length) : nth l i = some l[i] := by rw [Zal, List.getElem?_eq_getElem h]
theorem ZGQ {α : Type} {l : List α} {i : Nat} {v : α} (h : i < l.length) : nth (Za3 l i v) i = some v := by rw [Zal, Zby, List.getElem?_set_self h]
theorem Zcy {α : Type} {f : α → Option α} : ∀ {l : List α}, (∀ v ∈ l, f v = some v) → Zbl f l = some l
 | [], _ => rfl
 | a :: l, h => by
  simp only [Zbl, h a (by simp), Zcy (l := l) fun v hv => h v (by simp [hv])]
def inR (a b c : Int) : Bool := decide (b ≤ a) && decide (a ≤ c)
theorem Zb9 {a b c : Int} : inR a b c = true ↔ b ≤ a ∧ a ≤ c := by simp [inR]
theorem ZaD {i : Nat} (h : i < 9223372036854775807) : IntKind.i64.wrap ((i : Int) + 1) = ((i + 1 : Nat) : Int) := by
 rw [ZbE (by omega) (by omega)]; rfl
theorem Zbc {i n : Nat} (h : i < n) : decide ((i : Int) < (n : Int)) = true := decide_eq_true (by omega)
abbrev Ent := ByteArray × Int
structure Nod where
 kind : Int
 mode : Int
 uid : Int
 gid : Int
 time : Int
 data : ByteArray
 es : List Ent
instance : Inhabited Nod := ⟨⟨0, 0, 0, 0, 0, ByteArray.mk #[], []⟩⟩
instance : Inhabited Ent := ⟨(ByteArray.mk #[], 0)⟩
def ZDe (e : Ent) : V := .agg [.str e.1, .int .i64 e.2]
def ZbB (l : List Ent) : List V := l.map ZDe
def ZDd (n : Nod) : V := .agg [.int .i64 n.kind, .int .i64 n.mode, .int .i64 n.uid, .int .i64 n.gid, .int .i64 n.time, .str n.data, .list 2 (ZbB n.es) .sh]
def nodsV (l : List Nod) : List V := l.map ZDd
def ZaJ (l : List ByteArray) : List V := l.map V.str
def ZEZ (l : List Int) : List V := l.map (V.int .i64)
def at_ {α : Type} [Inhabited α] (l : List α) (i : Nat) : α := l.getD i default
theorem ZbW {α : Type} [Inhabited α] {l : List α} {i : Nat} (h : i < l.length) : at_ l i = l[i] := by
 simp [at_, List.getD_eq_getElem?_getD, List.getElem?_eq_getElem h]
theorem Zek {α : Type} [Inhabited α] {l : List α} {i : Nat} (h : i < l.length) : at_ l i ∈ l := by rw [ZbW h]; exact List.getElem_mem h
theorem Zbv (l : List Ent) : (ZbB l).length = l.length := by simp [ZbB]
theorem ZbA (l : List Nod) : (nodsV l).length = l.length := by simp [nodsV]
theorem Zba (l : List ByteArray) : (ZaJ l).length = l.length := by simp [ZaJ]
theorem ZLD (l : List Int) : (ZEZ l).length = l.length := by simp [ZEZ]
theorem ZbP {l : List Ent} {i : Nat} (h : i < l.length) : nth (ZbB l) i = some (ZDe (at_ l i)) := by rw [ZbB, ZdX, Zfl h, ZbW h]; rfl
theorem Zbe {l : List Nod} {i : Nat} (h : i < l.length) : nth (nodsV l) i = some (ZDd (at_ l i)) := by rw [nodsV, ZdX, Zfl h, ZbW h]; rfl
theorem ZdA {l : List ByteArray} {i : Nat} (h : i < l.length) : nth (ZaJ l) i = some (.str (at_ l i)) := by rw [ZaJ, ZdX, Zfl h, ZbW h]; rfl
theorem ZLs {l : List Int} {i : Nat} (h : i < l.length) : nth (ZEZ l) i = some (.int .i64 (at_ l i)) := by rw [ZEZ, ZdX, Zfl h, ZbW h]; rfl
variable {R : Type}
theorem ZAx (e : Ent) (k : ByteArray → Int → Option R) : Zca (ZDe e) k = k e.1 e.2 := rfl
theorem Zcw (e : Ent) (k : ByteArray → Int → Option R) : ZaZ (ZDe e) k = k e.1 e.2 := rfl
theorem ZzB (n : Nod) (k : Int → Int → Int → Int → Int → ByteArray → List V → Fl → Option R) : Zck (ZDd n) k = k n.kind n.mode n.uid n.gid n.time n.data (ZbB n.es) .sh := rfl
theorem ZbD (n : Nod) (k : Int → Int → Int → Int → Int → ByteArray → List V → Fl → Option R) : Zaw (ZDd n) k = k n.kind n.mode n.uid n.gid n.time n.data (ZbB n.es) .sh := rfl
theorem Zag (v : V) (k : V → Option R) : Zbq (some v) k = k v := rfl
theorem ZdS (b : ByteArray) (k : ByteArray → Option R) : Zbt (.str b) k = k b := rfl
theorem Ze2 (n : Int) (k : Int → Option R) : asInt .i64 (.int .i64 n) k = k n := rfl
theorem Zkj (b : Bool) (k : Bool → Option R) : asBool (.bool b) k = k b := rfl
def Zbm (g : Nat → Nat) : Nat → Nat
 | 0 => 0
 | n + 1 => Zbm g n + g n
theorem ZeA (g : Nat → Nat) : ∀ {a b : Nat}, a ≤ b → Zbm g a ≤ Zbm g b := by
 intro a b h
 induction b with
 | zero =>
  obtain rfl : a = 0 := by omega
  exact Nat.le_refl _
 | succ b ih =>
  rcases Nat.lt_or_ge a (b + 1) with h2 | h2
  ·exact Nat.le_trans (ih (by omega)) (Nat.le_add_right _ _)
  ·obtain rfl : a = b + 1 := by omega
   exact Nat.le_refl _
theorem ZjD (g : Nat → Nat) {i n : Nat} (h : i < n) : g i ≤ Zbm g n := Nat.le_trans (Nat.le_add_left _ _) (ZeA g (a := i + 1) h)
def ZiC (l : List Ent) : Nat := l.length + Zbm (fun i => (at_ l i).1.size) l.length
def Zgn (n : Nod) : Nat := n.data.size + ZiC n.es
def ZGW (l : List Nod) : Nat := l.length + Zbm (fun i => Zgn (at_ l i)) l.length
def ZI1 (n : Nod) : Prop := n.data.size ≤ 9223372036854775807 ∧ n.es.length ≤ 9223372036854775807 ∧ ∀ i, i < n.es.length → (at_ n.es i).1.size ≤ 9223372036854775807
def FsOk (l : List Nod) : Prop := l.length ≤ 9223372036854775807 ∧ ∀ i, i < l.length → ZI1 (at_ l i)
def left (x : Int) (n : Nat) : Int := if (n : Int) ≤ x then x - n else -1
theorem Zic {x : Int} {n : Nat} (h : (n : Int) ≤ x) : left x n = x - n := if_pos h
theorem Zey {x : Int} {n : Nat} (h : ¬ (n : Int) ≤ x) : left x n = -1 := if_neg h
variable (N : Nat)
theorem ZA2 (w : ByteArray) (n x : Int) (hw : w.size ≤ 9223372036854775807) (h0 : 0 ≤ x) (h1 : x ≤ 1048576) (k : Int → Option R) : ZFs N w n x k = k (left x w.size) := by
 rw [Zuu]
 unfold Zn4 left
 rw [ZbE (by omega) (by omega)]
 by_cases h : (w.size : Int) ≤ x
 ·rw [decide_eq_false (by omega), if_pos h]
 ·rw [decide_eq_true (by omega), if_neg h]
theorem ZxA {l : List Ent} (hl : l.length ≤ 9223372036854775807) (hz : ∀ i, i < l.length → (at_ l i).1.size ≤ 9223372036854775807) (hN : 1048576 < N) (f : Fl) (x : Int) (h0 : 0 ≤ x) (h1 : x ≤ 1048576) (k : Int → Option R) :
  ZE1 N (ZbB l) f x k = k (left x (ZiC l)) := by
 rw [ZtX]
 unfold Zp3
 rw [Zbv, ZbE (by omega) (by omega)]
 by_cases h : (l.length : Int) ≤ x
 ·rw [decide_eq_false (by omega)]
  let g := fun i => (at_ l i).1.size
  have ge : ∀ i, Zbm g (i + 1) = Zbm g i + (at_ l i).1.size := fun i => rfl
  have e0 : x - (l.length : Int) = x - l.length - (Zbm g 0 : Nat) := by simp [Zbm]
  show ZeO N (ZbB l) f (fun _ => k (-1)) (fun x => k x) N (x - l.length) 0 = _
  rw [e0]
  refine (Zcu (l := fun n i => ZeO N (ZbB l) f (fun _ => k (-1)) (fun x => k x) n (x - l.length - Zbm g i) (i : Int)) (len := l.length)
   (p := fun i => decide (0 ≤ x - l.length - Zbm g (i + 1))) (k0 := k (-1)) (k1 := k (x - l.length - Zbm g l.length)) ?_ ?_ (show l.length < N by omega)).trans ?_
  ·intro n i hi hq
   have hn : 0 ≤ x - l.length - Zbm g i := by
    cases i with
    | zero => simp only [Zbm]; omega
    | succ i => exact of_decide_eq_true (hq i (by omega))
   simp only [ZeO, ZcY, Zbv, Zbc hi, Int.natCast_nonneg, if_true, Int.toNat_natCast, ZbP hi, Zag, ZAx]
   rw [ZA2 N _ _ _ (hz i hi) hn (by omega)]
   simp only [ge]
   by_cases h3 : ((at_ l i).1.size : Int) ≤ x - l.length - Zbm g i
   ·rw [Zic h3, decide_eq_true (p := 0 ≤ _) (by omega), decide_eq_false (by omega), ZaD (i := i) (by omega)]
    simp only [Int.natCast_add, Int.sub_sub, Int.add_assoc, if_true]
   ·rw [Zey h3, decide_eq_false (p := 0 ≤ _) (by omega)]
    simp
  ·intro _ n
   simp only [ZeO, ZcY, Zbv, Int.lt_irrefl, decide_false]
  ·have hall : (List.range' 0 l.length).all (fun i => decide (0 ≤ x - l.length - Zbm g (i + 1))) = decide (0 ≤ x - l.length - Zbm g l.length) := by
    rw [Bool.eq_iff_iff, Zbi]
    constructor
    ·intro hq
     rcases Nat.eq_zero_or_pos l.length with hz0 | hz0
     ·have e1 : Zbm g l.length = 0 := by rw [hz0]; rfl
      rw [e1]
      exact decide_eq_true (by omega)
     ·obtain ⟨m, hm⟩ : ∃ m, l.length = m + 1 := ⟨l.length - 1, by omega⟩
      have := hq m (by omega)
      rwa [← hm] at this
    ·intro hq i hi
     have := of_decide_eq_true hq
     have := ZeA g (a := i + 1) (b := l.length) (by omega)
     exact decide_eq_true (by omega)
   rw [hall]
   have e : ZiC l = l.length + Zbm g l.length := rfl
   simp only [left, e]
   by_cases h4 : 0 ≤ x - l.length - Zbm g l.length
   ·rw [decide_eq_true h4, if_pos rfl, if_pos (by omega)]
    simp only [Int.natCast_add, Int.sub_sub]
   ·rw [decide_eq_false h4, if_neg (by simp), if_neg (by omega)]
 ·rw [decide_eq_true (by omega)]
  rw [Zey]
  unfold ZiC
  omega
theorem ZFc {n : Nod} (hn : ZI1 n) (hN : 1048576 < N) (f : Fl) (x : Int) (h0 : 0 ≤ x) (h1 : x ≤ 1048576) (k : Int → Option R) :
  ZGk N n.kind n.mode n.uid n.gid n.time n.data (ZbB n.es) f x k = k (left x (Zgn n)) := by
 rw [Zuz]
 unfold ZqD Zgn
 have := hn.1
 rw [ZbE (by omega) (by omega)]
 by_cases h : (n.data.size : Int) ≤ x
 ·rw [decide_eq_false (by omega)]
  simp only
  rw [ZxA N hn.2.1 hn.2.2 hN _ _ (by omega) (by omega)]
  by_cases h2 : (ZiC n.es : Int) ≤ x - n.data.size
  ·rw [Zic h2, Zic (by omega), decide_eq_false (by omega)]
   simp only [Int.natCast_add, Int.sub_sub]
  ·rw [Zey h2, Zey (by omega)]
   rfl
 ·rw [decide_eq_true (by omega), Zey (by omega)]
theorem ZBI {l : List Nod} (hl : FsOk l) (hN : 1048576 < N) (f : Fl) (x : Int) (h0 : 0 ≤ x) (h1 : x ≤ 1048576) (k : Int → Option R) :
  ZDD N (nodsV l) f x k = k (left x (ZGW l)) := by
 rw [ZuD]
 unfold Zo5
 have hll := hl.1
 rw [ZbA, ZbE (by omega) (by omega)]
 by_cases h : (l.length : Int) ≤ x
 ·rw [decide_eq_false (by omega)]
  let g := fun i => Zgn (at_ l i)
  have ge : ∀ i, Zbm g (i + 1) = Zbm g i + Zgn (at_ l i) := fun i => rfl
  have e0 : x - (l.length : Int) = x - l.length - (Zbm g 0 : Nat) := by simp [Zbm]
  show ZeU N (nodsV l) f (fun _ => k (-1)) (fun x => k x) N (x - l.length) 0 = _
  rw [e0]
  refine (Zcu (l := fun n i => ZeU N (nodsV l) f (fun _ => k (-1)) (fun x => k x) n (x - l.length - Zbm g i) (i : Int)) (len := l.length)
   (p := fun i => decide (0 ≤ x - l.length - Zbm g (i + 1))) (k0 := k (-1)) (k1 := k (x - l.length - Zbm g l.length)) ?_ ?_ (show l.length < N by omega)).trans ?_
  ·intro n i hi hq
   have hn : 0 ≤ x - l.length - Zbm g i := by
    cases i with
    | zero => simp only [Zbm]; omega
    | succ i => exact of_decide_eq_true (hq i (by omega))
   simp only [ZeU, Zdd, ZbA, Zbc hi, Int.natCast_nonneg, if_true, Int.toNat_natCast, Zbe hi, Zag, ZzB]
   rw [ZFc N (hl.2 i hi) hN _ _ hn (by omega)]
   simp only [ge]
   by_cases h3 : (Zgn (at_ l i) : Int) ≤ x - l.length - Zbm g i
   ·rw [Zic h3, decide_eq_true (p := 0 ≤ _) (by omega), decide_eq_false (by omega), ZaD (i := i) (by omega)]
    simp only [Int.natCast_add, Int.sub_sub, Int.add_assoc, if_true]
   ·rw [Zey h3, decide_eq_false (p := 0 ≤ _) (by omega)]
    simp
  ·intro _ n
   simp only [ZeU, Zdd, ZbA, Int.lt_irrefl, decide_false]
  ·have hall : (List.range' 0 l.length).all (fun i => decide (0 ≤ x - l.length - Zbm g (i + 1))) = decide (0 ≤ x - l.length - Zbm g l.length) := by
    rw [Bool.eq_iff_iff, Zbi]
    constructor
    ·intro hq
     rcases Nat.eq_zero_or_pos l.length with hz0 | hz0
     ·have e1 : Zbm g l.length = 0 := by rw [hz0]; rfl
      rw [e1]
      exact decide_eq_true (by omega)
     ·obtain ⟨m, hm⟩ : ∃ m, l.length = m + 1 := ⟨l.length - 1, by omega⟩
      have := hq m (by omega)
      rwa [← hm] at this
    ·intro hq i hi
     have := of_decide_eq_true hq
     have := ZeA g (a := i + 1) (b := l.length) (by omega)
     exact decide_eq_true (by omega)
   rw [hall]
   have e : ZGW l = l.length + Zbm g l.length := rfl
   simp only [left, e]
   by_cases h4 : 0 ≤ x - l.length - Zbm g l.length
   ·rw [decide_eq_true h4, if_pos rfl, if_pos (by omega)]
    simp only [Int.natCast_add, Int.sub_sub]
   ·rw [decide_eq_false h4, if_neg (by simp), if_neg (by omega)]
 ·rw [decide_eq_true (by omega)]
  rw [Zey]
  unfold ZGW
  omega
theorem ZLp {l : List Nod} (hl : FsOk l) (hN : 1048576 < N) (f : Fl) (room x : Int) (h0 : 0 ≤ x) (h1 : x ≤ 1048576) (k : Int → Option R) :
  ZFP N (nodsV l) f room x k = k (left x (ZGW l)) := by
 rw [Zwp]
 unfold Zqn
 rw [ZBI N hl hN _ _ h0 h1]
 by_cases h : (ZGW l : Int) ≤ x
 ·rw [Zic h, decide_eq_false (by omega)]
 ·rw [Zey h]; rfl
structure Small (l : List Nod) : Prop where
 len : l.length ≤ 1048576
 data : ∀ i, i < l.length → (at_ l i).data.size ≤ 1048576
 es : ∀ i, i < l.length → (at_ l i).es.length ≤ 1048576
 sum : Zbm (fun i => (at_ l i).data.size) l.length ≤ 1048576
 ents : Zbm (fun i => (at_ l i).es.length) l.length ≤ 1048576
 name : ∀ i, i < l.length → ∀ j, j < (at_ l i).es.length → (at_ (at_ l i).es j).1.size ≤ 1048576
theorem Zef {g h : Nat → Nat} (hg : ∀ i, g i ≤ h i) : ∀ n, Zbm g n ≤ Zbm h n
 | 0 => Nat.le_refl _
 | n + 1 => Nat.add_le_add (Zef hg n) (hg n)
theorem Small.of {l : List Nod} (h : ZGW l ≤ 1048576) : Small l := by
 unfold ZGW at h
 have h1 : ∀ i, i < l.length → Zgn (at_ l i) ≤ 1048576 := fun i hi => Nat.le_trans (ZjD (fun i => Zgn (at_ l i)) hi) (by omega)
 refine ⟨by omega, fun i hi => ?_, fun i hi => ?_, ?_, ?_, fun i hi j hj => ?_⟩
 ·have := h1 i hi; unfold Zgn at this; omega
 ·have := h1 i hi; unfold Zgn ZiC at this; omega
 ·have := Zef (g := fun i => (at_ l i).data.size) (h := fun i => Zgn (at_ l i)) (fun i => by simp only [Zgn]; omega) l.length
  omega
 ·have := Zef (g := fun i => (at_ l i).es.length) (h := fun i => Zgn (at_ l i)) (fun i => by simp only [Zgn, ZiC]; omega) l.length
  omega
 ·have := h1 i hi
  unfold Zgn ZiC at this
  have := ZjD (fun j => (at_ (at_ l i).es j).1.size) hj
  omega
end Go.VM.VL
set_option linter.unusedSimpArgs false
set_option linter.unusedVariables false
namespace Go.VM.VL
def Zea (xs : List V) (z : V) (i : Nat) : List V := xs.take i ++ List.replicate (xs.length - i) z
theorem ZzI (xs : List V) (z : V) {i : Nat} (h : i ≤ xs.length) : (Zea xs z i).length = xs.length := by
 simp only [Zea, List.length_append, List.length_take, List.length_replicate]; omega
theorem Zhp (xs : List V) (z : V) {i : Nat} (h : i < xs.length) : nth (Zea xs z i) i = some z := by
 rw [Zal, Zea, List.getElem?_append_right (by simp only [List.length_take]; omega)]
 rw [List.getElem?_replicate, if_pos (by simp; omega)]
theorem Zhl (xs : List V) (z v : V) {i : Nat} (h : i < xs.length) (hv : nth xs i = some v) : Za3 (Zea xs z i) i v = Zea xs z (i + 1) := by
 have hv' : xs[i]? = some v := by rw [← Zal]; exact hv
 rw [Zby]
 apply List.ext_getElem?
 intro j
 rw [List.getElem?_set]
 have hlen := ZzI xs z (i := i) (by omega)
 have hT : (xs.take i).length = i := by simp; omega
 have hT2 : (xs.take (i + 1)).length = i + 1 := by simp; omega
 by_cases hij : i = j
 ·subst hij
  rw [if_pos rfl, if_pos (by omega)]
  unfold Zea
  rw [List.getElem?_append_left (by omega), List.getElem?_take_of_lt (by omega), hv']
 ·rw [if_neg hij]
  unfold Zea
  rcases Nat.lt_or_ge j i with h2 | h2
  ·rw [List.getElem?_append_left (by omega), List.getElem?_append_left (by omega), List.getElem?_take_of_lt (by omega), List.getElem?_take_of_lt (by omega)]
  ·rw [List.getElem?_append_right (by omega), List.getElem?_append_right (by omega), List.getElem?_replicate, List.getElem?_replicate, hT, hT2]
   by_cases h3 : j - i < xs.length - i
   ·rw [if_pos h3, if_pos (by omega)]
   ·rw [if_neg h3, if_neg (by omega)]
theorem Ziu (xs : List V) (z : V) : Zea xs z 0 = List.replicate xs.length z := by simp [Zea]
theorem Zkv (xs : List V) (z : V) : Zea xs z xs.length = xs := by simp [Zea]
variable {R : Type} (N : Nat)
theorem ZIQ (s : S) (e : Ent) : Zbh false s 11 (ZDe e) = some (ZDe e) := rfl
theorem ZIK (s : S) (n : Nod) : Zbh false s 11 (ZDd n) = some (ZDd n) := rfl
theorem ZwZ (l : List Ent) : (ZbB l).all V.plain = true := by
 rw [List.all_eq_true]; intro v hv
 obtain ⟨e, _, rfl⟩ := List.mem_map.1 hv
 rfl
theorem ZyK (l : List Nod) : (nodsV l).all V.plain = true := by
 rw [List.all_eq_true]; intro v hv
 obtain ⟨e, _, rfl⟩ := List.mem_map.1 hv
 rfl
theorem ZC0 (w : ByteArray) (n : Int) (k : ByteArray → Int → Option R) : ZFe N w n k = k w n := by rw [Zvo]; rfl
theorem Zxg {l : List Ent} (hl : l.length ≤ 1048576) (hN : 1048576 < N) (f : Fl) (z : V) (hp : ∀ e : Ent, putCells z 0 [.str e.1, .int .i64 e.2] = some (ZDe e)) (k0 : List V → Option R) :
  Zfm N (ZbB l) f l.length k0 N 0 (List.replicate l.length z) = k0 (ZbB l) := by
 have e0 : List.replicate l.length z = Zea (ZbB l) z 0 := by rw [Ziu, Zbv]
 rw [e0]
 refine ZbI (l := fun n i => Zfm N (ZbB l) f l.length k0 n (i : Int) (Zea (ZbB l) z i)) (len := l.length) (k1 := k0 (ZbB l)) ?_ ?_ (show l.length < N by omega)
 ·intro n i hi
  have hi' : i < (ZbB l).length := by rw [Zbv]; exact hi
  simp only [Zfm, ZcR, Zbv, Zbc hi, Int.natCast_nonneg, if_true, Int.toNat_natCast, ZbP hi, Zag, ZAx, ZC0, Nat.zero_add, Zhp _ _ hi', hp]
  rw [if_pos ⟨trivial, by omega⟩, ZaD (i := i) (by omega), ← Zhl (ZbB l) z _ hi' (ZbP hi)]
 ·intro n
  simp only [Zfm, ZcR, Zbv, Int.lt_irrefl, decide_false]
  rw [show Zea (ZbB l) z l.length = ZbB l by rw [← Zbv l]; exact Zkv _ _]
theorem Zw5 {l : List Ent} (hl : l.length ≤ 1048576) (hN : 1048576 < N) (f : Fl) (k : List V → Option R) : ZFE N (ZbB l) f k = k (ZbB l) := by
 rw [Zt0]
 unfold ZnJ
 rw [Zbv, if_pos ⟨by omega, rfl, by omega⟩, Int.toNat_natCast]
 refine (Zxg N hl hN f _ (fun e => rfl) _).trans ?_
 simp only [List.drop_zero]
 rw [List.take_of_length_le (by rw [Zbv]; exact Nat.le_refl _),
   Zcy fun v hv => by obtain ⟨e, _, rfl⟩ := List.mem_map.1 hv; rfl]
 simp only [ZwZ, Zbv, Nat.zero_add, Nat.le_refl, decide_true, Zao]
theorem ZDG {n : Nod} (hl : n.es.length ≤ 1048576) (hN : 1048576 < N) (f : Fl) (k : Int → Int → Int → Int → Int → ByteArray → List V → Option R) :
  ZGr N n.kind n.mode n.uid n.gid n.time n.data (ZbB n.es) f k = k n.kind n.mode n.uid n.gid n.time n.data (ZbB n.es) := by
 rw [ZwO]; unfold ZoF; rw [Zw5 N hl hN]
theorem ZBA {l : List Nod} (hl : Small l) (hN : 1048576 < N) (f : Fl) (z : V) (hp : ∀ n : Nod, putCells z 0 [.int .i64 n.kind, .int .i64 n.mode, .int .i64 n.uid, .int .i64 n.gid, .int .i64 n.time, .str n.data, .list 2 (ZbB n.es) .sh] = some (ZDd n)) (k0 : List V → Option R) :
  Ze7 N (nodsV l) f l.length k0 N 0 (List.replicate l.length z) = k0 (nodsV l) := by
 have hll := hl.len
 have e0 : List.replicate l.length z = Zea (nodsV l) z 0 := by rw [Ziu, ZbA]
 rw [e0]
 refine ZbI (l := fun n i => Ze7 N (nodsV l) f l.length k0 n (i : Int) (Zea (nodsV l) z i)) (len := l.length) (k1 := k0 (nodsV l)) ?_ ?_ (show l.length < N by omega)
 ·intro n i hi
  have hi' : i < (nodsV l).length := by rw [ZbA]; exact hi
  simp only [Ze7, Zdi, ZbA, Zbc hi, Int.natCast_nonneg, if_true, Int.toNat_natCast, Zbe hi, Zag, ZzB, ZDG N (hl.es i hi) hN, Nat.zero_add, Zhp _ _ hi', hp]
  rw [if_pos ⟨trivial, by omega⟩, ZaD (i := i) (by omega), ← Zhl (nodsV l) z _ hi' (Zbe hi)]
 ·intro n
  simp only [Ze7, Zdi, ZbA, Int.lt_irrefl, decide_false]
  rw [show Zea (nodsV l) z l.length = nodsV l by rw [← ZbA l]; exact Zkv _ _]
theorem Zzp {l : List Nod} (hl : Small l) (hN : 1048576 < N) (f : Fl) (k : List V → Option R) : ZGv N (nodsV l) f k = k (nodsV l) := by
 rw [ZuJ]
 unfold Zqc
 have hll := hl.len
 rw [ZbA, if_pos ⟨by omega, rfl, by omega⟩, Int.toNat_natCast]
 refine (ZBA N hl hN f _ (fun n => rfl) _).trans ?_
 simp only [List.drop_zero]
 rw [List.take_of_length_le (by rw [ZbA]; exact Nat.le_refl _),
   Zcy fun v hv => by obtain ⟨e, _, rfl⟩ := List.mem_map.1 hv; rfl]
 simp only [ZyK, ZbA, Nat.zero_add, Nat.le_refl, decide_true, Zao]
theorem ZuC {l : List Nod} (hl : Small l) (hN : 1048576 < N) (f : Fl) (room : Int) (k : List V → Int → Option R) : ZyS N (nodsV l) f room k = k (nodsV l) room := by
 rw [ZwK]; unfold ZpF; rw [Zzp N hl hN]
theorem ZFg (a b : Int) (k : Int → Int → Option R) : ZDc N a b k = k a b := by rw [ZuT]; rfl
theorem ZCG (w : ByteArray) (n : Int) (k : Bool → Option R) : ZD7 N w n w n k = k true := by
 rw [Zv4]; unfold Zqp; simp
theorem ZxW {l : List Ent} (hl : l.length ≤ 1048576) (hN : 1048576 < N) (f g : Fl) (k : Bool → Option R) : ZD4 N (ZbB l) f (ZbB l) g k = k true := by
 rw [Zt8]
 unfold Zqw
 simp only [bne_self_eq_false]
 refine ZbI (l := fun n i => ZfX N (ZbB l) f (ZbB l) g (fun _ => k false) (fun _ => k true) n (i : Int)) (len := l.length) (k1 := k true) ?_ ?_ (show l.length < N by omega)
 ·intro n i hi
  simp only [ZfX, Zc5, Zbv, Zbc hi, Int.natCast_nonneg, if_true, Int.toNat_natCast, ZbP hi, Zag, Zcw, ZCG, Bool.not_true]
  rw [ZaD (i := i) (by omega)]
 ·intro n
  simp only [ZfX, Zc5, Zbv, Int.lt_irrefl, decide_false]
theorem ZGg {n : Nod} (hl : n.es.length ≤ 1048576) (hN : 1048576 < N) (f g : Fl) (k : Bool → Option R) :
  ZF4 N n.kind n.mode n.uid n.gid n.time n.data (ZbB n.es) f n.kind n.mode n.uid n.gid n.time n.data (ZbB n.es) g k = k true := by
 rw [Zuy]; unfold ZpU; simp only [bne_self_eq_false, beq_self_eq_true, Bool.not_true, ZxW N hl hN]
theorem ZAR {l : List Nod} (hl : Small l) (hN : 1048576 < N) (f g : Fl) (k : Bool → Option R) : ZEA N (nodsV l) f (nodsV l) g k = k true := by
 rw [Zwg]
 unfold ZpO
 have hll := hl.len
 simp only [bne_self_eq_false]
 refine ZbI (l := fun n i => ZfW N (nodsV l) f (nodsV l) g (fun _ => k false) (fun _ => k true) n (i : Int)) (len := l.length) (k1 := k true) ?_ ?_ (show l.length < N by omega)
 ·intro n i hi
  simp only [ZfW, ZcU, ZbA, Zbc hi, Int.natCast_nonneg, if_true, Int.toNat_natCast, Zbe hi, Zag, ZbD, ZGg N (hl.es i hi) hN, Bool.not_true]
  rw [ZaD (i := i) (by omega)]
 ·intro n
  simp only [ZfW, ZcU, ZbA, Int.lt_irrefl, decide_false]
theorem ZzK {l : List Nod} (hl : Small l) (hN : 1048576 < N) (f g : Fl) (room : Int) (k : Bool → Option R) : ZF3 N (nodsV l) f room (nodsV l) g room k = k true := by
 rw [Zvt]; unfold Zql; rw [ZAR N hl hN]; simp only [bne_self_eq_false, Bool.not_true]
end Go.VM.VL
set_option linter.unusedSimpArgs false
set_option linter.unusedVariables false
namespace Go.VM.VL
open Go
abbrev bl (w : ByteArray) : List UInt8 := w.data.toList
def ba (l : List UInt8) : ByteArray := ⟨⟨l⟩⟩
theorem Zw7 (w : ByteArray) : ba (bl w) = w := rfl
theorem Zw1 (l : List UInt8) : bl (ba l) = l := rfl
theorem ZbR (w : ByteArray) : w.size = (bl w).length := Array.length_toList.symm
theorem ZkZ (w : ByteArray) (a b : Nat) : bl (ByteArray.extract w a b) = ((bl w).take b).drop a := by
 rw [bl, ByteArray.data_extract, Array.toList_extract, List.extract_eq_take_drop, List.drop_take]
theorem ZeF (w : ByteArray) (a b : Nat) : ByteArray.extract w a b = ba (((bl w).take b).drop a) := by rw [← ZkZ]; rfl
variable {R : Type} (N : Nat)
theorem Zcx (w : ByteArray) {i : Nat} (h : i < (bl w).length) (k : Int → Option R) : ZcE w (i : Int) k = k ((at_ (bl w) i).toNat : Int) := by
 unfold ZcE
 rw [if_pos (by omega), Int.toNat_natCast]
 have e : w.data[i]? = some (bl w)[i] := by rw [← Array.getElem?_toList, List.getElem?_eq_getElem h]
 rw [e, ZbW h]
theorem ZyF (a b c : Int) (k : Bool → Option R) : Zip N a b c k = k (inR a b c) := by
 rw [Zuq]
 unfold Zou inR
 by_cases h : b ≤ a
 ·rw [decide_eq_true (show a ≥ b from h)]; simp
 ·rw [decide_eq_false (show ¬ a ≥ b from h)]; simp
theorem Zw8 (a b c : Int) (k : Bool → Option R) : Zgi N a b c k = k (inR a b c) := by
 rw [Zuk]
 unfold Zo9 inR
 by_cases h : b ≤ a
 ·rw [decide_eq_true (show a ≥ b from h)]; simp
 ·rw [decide_eq_false (show ¬ a ≥ b from h)]; simp
def ZiF (n : Int) : Bool := (!decide (n < 97) && !decide (n > 122)) || (!decide (n < 48) && !decide (n > 57)) || (n == 46) || (n == 95) || (n == 45)
def Zh8 (w : ByteArray) : Bool := (List.range' 0 w.size).all fun i => ZiF ((at_ (bl w) i).toNat : Int)
def Zeh (w : ByteArray) : Bool := Zh8 w && inR (w.size : Int) 1 8
def Zzn (w : ByteArray) : Bool := w.toList == (ByteArray.mk #[46]).toList
def ZiO (w : ByteArray) : Bool := w.toList == (ByteArray.mk #[46, 46]).toList
def ZbX (w : ByteArray) : Bool := w.toList == (ByteArray.mk #[]).toList
def Znq (w : ByteArray) : Bool := Zeh w && !Zzn w && !ZiO w
theorem Zys (w : ByteArray) : ZbX w = decide (w.size = 0) := by
 unfold ZbX
 rw [ByteArray.toList_eq, ByteArray.toList_eq, ZbR]
 cases h : bl w with
 | nil => rw [show w.data.toList = [] from h]; rfl
 | cons a l => rw [show w.data.toList = a :: l from h]; rfl
theorem ZKD {w : ByteArray} (hw : w.size ≤ 1048576) (hN : 1048576 < N) (k : Bool → Option R) : Zz8 N w k = k (Znq w) := by
 rw [Zun]
 unfold Zp5
 rw [Zw8]
 refine (Zcu (l := fun n i => Ze3 N w _ _ n (i : Int)) (len := w.size) (p := fun i => ZiF ((at_ (bl w) i).toNat : Int)) (k0 := k false) (k1 := (match inR (w.size : Int) 1 8 with
  | true => (match (!(w.toList == (ByteArray.mk #[46]).toList)) with
   | true => k (!(w.toList == (ByteArray.mk #[46, 46]).toList))
   | false => k false)
  | false => k false)) ?_ ?_ (show w.size < N by omega)).trans ?_
 ·intro n i hi _
  simp only [Ze3, ZcZ, Zbc hi]
  rw [Zcx w (by rw [← ZbR]; exact hi), ZaD (i := i) (by omega)]
  generalize Ze3 N w _ _ n ((i + 1 : Nat) : Int) = X
  generalize ((at_ (bl w) i).toNat : Int) = x
  unfold ZiF
  simp only [bne]
  generalize decide (x < 97) = a
  generalize decide (x > 122) = b
  generalize decide (x < 48) = c
  generalize decide (x > 57) = d
  generalize (x == 46) = e
  generalize (x == 95) = f
  generalize (x == 45) = g
  cases a <;> cases b <;> cases c <;> cases d <;> cases e <;> cases f <;> cases g <;> rfl
 ·intro _ n
  simp only [Ze3, ZcZ, Int.lt_irrefl, decide_false]
  rfl
 ·show (if Zh8 w = true then _ else _) = _
  unfold Znq Zeh Zzn ZiO
  cases Zh8 w <;> cases inR (w.size : Int) 1 8 <;> cases (w.toList == (ByteArray.mk #[46]).toList) <;> cases (w.toList == (ByteArray.mk #[46, 46]).toList) <;> rfl
theorem ZoO (x : Int) (k : Bool → Option R) : ZGn N x k = k (ZiF x) := by
 rw [ZvA]
 unfold Zpl ZiF
 rw [show decide (x ≥ 97) = !decide (x < 97) by by_cases h : x < 97 <;> simp [h] <;> omega, show decide (x ≤ 122) = !decide (x > 122) by by_cases h : x > 122 <;> simp [h] <;> omega,
  show decide (x ≥ 48) = !decide (x < 48) by by_cases h : x < 48 <;> simp [h] <;> omega, show decide (x ≤ 57) = !decide (x > 57) by by_cases h : x > 57 <;> simp [h] <;> omega]
 generalize decide (x < 97) = a
 generalize decide (x > 122) = b
 generalize decide (x < 48) = c
 generalize decide (x > 57) = d
 generalize (x == 46) = e
 generalize (x == 95) = f
 generalize (x == 45) = g
 cases a <;> cases b <;> cases c <;> cases d <;> cases e <;> cases f <;> cases g <;> rfl
theorem ZyM {w : ByteArray} {i : Nat} (h : i < (bl w).length) : nth (ZcG w) i = some (.int .u8 ((at_ (bl w) i).toNat : Int)) := by
 rw [ZcG, ZdX, Zfl h, ZbW h]; rfl
theorem Zxt (w : ByteArray) : (ZcG w).length = w.size := by rw [ZcG, List.length_map]; exact Array.length_toList
theorem ZDN (n : Int) (k : Int → Option R) : asInt .u8 (.int .u8 n) k = k n := rfl
def Zgh (q : Nat → Bool) (len : Nat) : Int := match (List.range' 0 len).findSome? (fun i => if q i then some i else none) with | some i => (i : Int) | none => -1
theorem ZiK {q : Nat → Bool} {len : Nat} : decide (Zgh q len ≥ 0) = !(List.range' 0 len).all (fun i => !q i) := by
 unfold Zgh
 cases h : (List.range' 0 len).findSome? (fun i => if q i then some i else none) with
 | none =>
  have h2 : (List.range' 0 len).all (fun i => !q i) = true := Zbi.2 fun i hi => by
   have := ZcI.1 h i hi
   cases hq : q i with
   | true => simp [hq] at this
   | false => rfl
  rw [h2]; rfl
 | some j =>
  have h2 : ¬ (List.range' 0 len).all (fun i => !q i) = true := fun h2 => by
   have h3 : (List.range' 0 len).findSome? (fun i => if q i then some i else none) = none := ZcI.2 fun i hi => by
    have := Zbi.1 h2 i hi
    cases hq : q i with
    | true => simp [hq] at this
    | false => rfl
   rw [h] at h3; cases h3
  rw [Bool.eq_false_iff.2 h2]
  simp
theorem ZvU {w : ByteArray} (hw : w.size ≤ 1048576) (hN : 1048576 < N) (k : Bool → Option R) : ZzE N w k = k (Zeh w) := by
 rw [ZuR]
 unfold ZnI
 rw [ZyF]
 have hc : ∀ K : Bool → Option R, ZFq N (ZcG w) .sh K = K (!Zh8 w) := by
  intro K
  rw [ZuF]
  unfold ZnZ
  rw [Zu0]
  unfold Zo7
  rw [Zxt]
  refine (Zb2 (β := Nat) (l := fun n i => ZfP N (ZcG w) _ (w.size : Int) _ _ n (i : Int)) (len := w.size) (q := fun i => if !ZiF ((at_ (bl w) i).toNat : Int) then some i else none) (kb := fun i => K (decide ((i : Int) ≥ 0))) (k1 := K (decide ((-1 : Int) ≥ 0))) ?_ ?_ (show w.size < N by omega)).trans ?_
  ·intro n i hi _
   have hi' : i < (bl w).length := by rw [← ZbR]; exact hi
   simp only [ZfP, ZcT, Zbc hi, Int.natCast_nonneg, if_true, Int.toNat_natCast, ZyM hi', Zag, ZDN]
   rw [ZuY]
   unfold Zpr
   rw [ZoO, ZaD (i := i) (by omega)]
   cases ZiF ((at_ (bl w) i).toNat : Int) <;> rfl
  ·intro _ n
   simp only [ZfP, ZcT, Int.lt_irrefl, decide_false]
  ·have := ZiK (q := fun i => !ZiF ((at_ (bl w) i).toNat : Int)) (len := w.size)
   unfold Zgh at this
   unfold Zh8
   simp only [Bool.not_not] at this
   rw [← this]
   generalize (List.range' 0 w.size).findSome? _ = o
   cases o <;> rfl
 simp only [hc]
 unfold Zeh
 cases Zh8 w <;> cases inR (w.size : Int) 1 8 <;> rfl
theorem ZyH {w : ByteArray} (hw : w.size ≤ 1048576) (hN : 1048576 < N) (k : Bool → Option R) : ZDx N w k = k (Znq w) := by
 rw [ZvS]
 unfold ZpY
 rw [ZvU N hw hN]
 rw [Zus]
 unfold Zqy Znq Zzn ZiO
 cases Zeh w <;> cases (w.toList == (ByteArray.mk #[46]).toList) <;> cases (w.toList == (ByteArray.mk #[46, 46]).toList) <;> rfl
end Go.VM.VL
set_option linter.unusedSimpArgs false
set_option linter.unusedVariables false
namespace Go.VM.VL
open Go
def Zbz (c : UInt8) : List UInt8 → List (List UInt8)
 | [] => [[]]
 | b :: l => if b = c then [] :: Zbz c l else match Zbz c l with
  | p :: ps => (b :: p) :: ps
  | [] => [[b]]
theorem Zeg (c : UInt8) : ∀ l, Zbz c l ≠ []
 | [] => by simp [Zbz]
 | b :: l => by
  unfold Zbz
  split
  ·simp
  ·split <;> simp
theorem ZdF (c : UInt8) : ∀ l, (Zbz c l).length = l.count c + 1
 | [] => rfl
 | b :: l => by
  have ih := ZdF c l
  unfold Zbz
  split
  ·rename_i h
   rw [List.length_cons, ih, h, List.count_cons_self]
  ·rename_i h
   rw [List.count_cons_of_ne h]
   cases h2 : Zbz c l with
   | nil => exact absurd h2 (Zeg c l)
   | cons p ps => rw [h2] at ih; exact ih
def ZGV (x : List UInt8) : List (List UInt8) → List (List UInt8)
 | p :: ps => (x ++ p) :: ps
 | [] => [x]
theorem Zia {c b : UInt8} (h : b = c) (l : List UInt8) : Zbz c (b :: l) = [] :: Zbz c l := by rw [Zbz, if_pos h]
theorem ZeC {c b : UInt8} (h : b ≠ c) (l : List UInt8) : Zbz c (b :: l) = ZGV [b] (Zbz c l) := by
 conv => lhs; unfold Zbz
 rw [if_neg h]
 cases Zbz c l <;> rfl
theorem ZC8 (x y : List UInt8) (ps : List (List UInt8)) (h : ps ≠ []) : ZGV x (ZGV y ps) = ZGV (x ++ y) ps := by
 cases ps with
 | nil => exact absurd rfl h
 | cons p ps => simp [ZGV]
def ZfA (c : UInt8) (l : List UInt8) : Nat → List (List UInt8) × Nat
 | 0 => ([], 0)
 | i + 1 => if at_ l i = c then ((ZfA c l i).1 ++ [(l.take i).drop (ZfA c l i).2], i + 1) else ZfA c l i
theorem Zjy (c : UInt8) (l : List UInt8) : ∀ i, (ZfA c l i).2 ≤ i ∧ (ZfA c l i).1.length ≤ i
 | 0 => ⟨Nat.le_refl _, Nat.le_refl _⟩
 | i + 1 => by
  have := Zjy c l i
  unfold ZfA
  split
  ·simp; omega
  ·omega
theorem Zvd (c : UInt8) (l : List UInt8) : ∀ i, i ≤ l.length → (ZfA c l i).1 ++ ZGV ((l.take i).drop (ZfA c l i).2) (Zbz c (l.drop i)) = Zbz c l
 | 0, _ => by
  simp only [ZfA, List.drop_zero, List.take_zero, List.nil_append]
  cases h : Zbz c l with
  | nil => exact absurd h (Zeg c l)
  | cons p ps => rfl
 | i + 1, hi => by
  have ih := Zvd c l i (by omega)
  have hlt : i < l.length := by omega
  have hle := (Zjy c l i).1
  rw [List.drop_eq_getElem_cons hlt] at ih
  unfold ZfA
  by_cases h : at_ l i = c
  ·rw [ZbW hlt] at h
   rw [Zia h] at ih
   rw [ZbW hlt, if_pos h]
   simp only [List.append_assoc]
   rw [← ih]
   congr 1
   have e : (l.take (i + 1)).drop (i + 1) = [] := by
    apply List.drop_eq_nil_of_le
    simp only [List.length_take]; omega
   simp only [e, ZGV, List.append_nil, List.singleton_append]
   congr 1
   cases h2 : Zbz c (l.drop (i + 1)) with
   | nil => exact absurd h2 (Zeg c _)
   | cons p ps => rfl
  ·rw [ZbW hlt] at h
   rw [ZeC h, ZC8 _ _ _ (Zeg c _)] at ih
   rw [ZbW hlt, if_neg h, ← ih]
   congr 2
   rw [List.take_succ_eq_append_getElem hlt, List.drop_append_of_le_length (by simp only [List.length_take]; omega)]
theorem ZzG (c : UInt8) (l : List UInt8) : (ZfA c l l.length).1 ++ [l.drop (ZfA c l l.length).2] = Zbz c l := by
 have := Zvd c l l.length (Nat.le_refl _)
 simpa [Zbz, ZGV] using this
def Zbw (w : ByteArray) : List ByteArray := (Zbz 47 (bl w)).map ba
def ZbM (w : ByteArray) : List ByteArray := (Zbw w).filter fun p => !ZbX p
theorem Zib (w : ByteArray) : (Zbw w).length ≤ w.size + 1 := by
 unfold Zbw
 rw [List.length_map, ZdF, ZbR]
 have := List.count_le_length (a := (47 : UInt8)) (l := bl w)
 omega
theorem ZdG (w : ByteArray) : (ZbM w).length ≤ w.size + 1 := Nat.le_trans (List.length_filter_le _ _) (Zib w)
theorem ZfK (c : UInt8) : ∀ l, ∀ p ∈ Zbz c l, p.length ≤ l.length
 | [], p, h => by simp [Zbz] at h; subst h; exact Nat.le_refl _
 | b :: l, p, h => by
  have ih := ZfK c l
  by_cases hb : b = c
  ·rw [Zia hb] at h
   rcases List.mem_cons.1 h with rfl | h
   ·simp
   ·have := ih p h; rw [List.length_cons]; omega
  ·rw [ZeC hb] at h
   cases h2 : Zbz c l with
   | nil => exact absurd h2 (Zeg c l)
   | cons q qs =>
    rw [h2] at h ih
    rcases List.mem_cons.1 h with rfl | h
    ·have := ih q (by simp)
     simp; omega
    ·have := ih p (by simp [h]); rw [List.length_cons]; omega
theorem Zkp {w p : ByteArray} (h : p ∈ ZbM w) : p.size ≤ w.size := by
 obtain ⟨q, hq, rfl⟩ := List.mem_map.1 (List.mem_filter.1 h).1
 rw [ZbR, ZbR, Zw1]
 exact ZfK 47 _ _ hq
variable {R : Type} (N : Nat)
theorem ZCP {b c : UInt8} : ((b.toNat : Int) == (c.toNat : Int)) = decide (b = c) := by
 by_cases h : b = c
 ·subst h; simp
 ·rw [decide_eq_false h]
  apply beq_false_of_ne
  intro h2
  exact h (UInt8.toNat_inj.1 (by omega))
theorem ZBj {w : ByteArray} (hw : w.size ≤ 1048576) (hN : 1048580 < N) (k : List V → Option R) : ZDC N w 47 k = k (ZaJ (Zbw w)) := by
 rw [Zt5]
 unfold Zqi
 refine ZbI (l := fun n i => Zf7 N w 47 _ n (ZaJ ((ZfA 47 (bl w) i).1.map ba)) ((ZfA 47 (bl w) i).2 : Int) (i : Int)) (len := w.size) (k1 := k (ZaJ (Zbw w))) ?_ ?_ (show w.size < N by omega)
 ·intro n i hi
  have hi' : i < (bl w).length := by rw [← ZbR]; exact hi
  have hle := Zjy 47 (bl w) i
  simp only [Zf7, ZcP, Zbc hi, Zcx w hi']
  rw [show (47 : Int) = ((47 : UInt8).toNat : Int) from rfl, ZCP, ZaD (i := i) (by omega)]
  by_cases h : at_ (bl w) i = 47
  ·rw [decide_eq_true h]
   simp only [ZfA, if_pos h]
   rw [if_pos ⟨by omega, by omega⟩, if_pos ⟨by omega, by omega⟩, if_pos (by rw [Zba, List.length_map]; omega), ZeF]
   simp only [Int.toNat_natCast, ZaJ, List.map_append, List.map_cons, List.map_nil]
  ·rw [decide_eq_false h]
   simp only [ZfA, if_neg h]
 ·intro n
  have hle := Zjy 47 (bl w) w.size
  simp only [Zf7, ZcP, Int.lt_irrefl, decide_false]
  rw [if_pos ⟨by omega, by omega⟩, if_pos (by rw [Zba, List.length_map]; omega), ZeF]
  have := ZzG 47 (bl w)
  rw [← ZbR] at this
  unfold Zbw
  rw [← this, List.take_of_length_le (by rw [ZbR]; exact Nat.le_refl _)]
  simp only [Int.toNat_natCast, ZaJ, List.map_append, List.map_cons, List.map_nil]
theorem ZdM {α : Type} [Inhabited α] (p : α → Bool) (l : List α) {i : Nat} (h : i < l.length) : (l.take (i + 1)).filter p = (l.take i).filter p ++ if p (at_ l i) then [at_ l i] else [] := by
 rw [List.take_succ_eq_append_getElem h, List.filter_append, ZbW h]
 congr 1
 rw [List.filter_cons]
 split <;> rfl
theorem Zj6 {w : ByteArray} (hw : w.size ≤ 1048576) (hN : 1048580 < N) (k : List V → Option R) : ZpS N w k = k (ZaJ (ZbM w)) := by
 rw [Zvh]
 unfold ZnC
 rw [ZBj N hw hN, Zba]
 have hl := Zib w
 refine ZbI (l := fun n i => Zgl N (ZaJ (Zbw w)) ((Zbw w).length : Int) _ n (ZaJ (((Zbw w).take i).filter fun p => !ZbX p)) (i : Int)) (len := (Zbw w).length) (k1 := k (ZaJ (ZbM w))) ?_ ?_ (show (Zbw w).length < N by omega)
 ·intro n i hi
  simp only [Zgl, Zdj, Zbc hi, Int.natCast_nonneg, if_true, Int.toNat_natCast, ZdA hi, Zag, ZdS]
  rw [ZaD (i := i) (by omega), ZdM _ _ hi]
  have hlf : (((Zbw w).take i).filter fun p => !ZbX p).length ≤ i := Nat.le_trans (List.length_filter_le _ _) (by rw [List.length_take]; omega)
  cases h : ZbX (at_ (Zbw w) i) with
  | true =>
   rw [show ((at_ (Zbw w) i).toList == (ByteArray.mk #[]).toList) = true from h]
   simp
  | false =>
   rw [show ((at_ (Zbw w) i).toList == (ByteArray.mk #[]).toList) = false from h, if_pos (by rw [Zba]; omega)]
   simp [ZaJ]
 ·intro n
  simp only [Zgl, Zdj, Int.lt_irrefl, decide_false]
  rw [List.take_of_length_le (Nat.le_refl _)]
  rfl
def Zge (w : ByteArray) : Bool := (ZbM w).all Zeh && inR (w.size : Int) 1 60
theorem ZGI {w : ByteArray} (h : Zzn w = true) : Zeh w = true := by
 unfold Zzn at h
 rw [beq_iff_eq, ByteArray.toList_eq, ByteArray.toList_eq] at h
 have : w = ba [46] := by rw [← Zw7 w, show bl w = _ from h]
 subst this
 decide
theorem ZBQ {w : ByteArray} (h : ZiO w = true) : Zeh w = true := by
 unfold ZiO at h
 rw [beq_iff_eq, ByteArray.toList_eq, ByteArray.toList_eq] at h
 have : w = ba [46, 46] := by rw [← Zw7 w, show bl w = _ from h]
 subst this
 decide
theorem Zvs {w : ByteArray} (hw : w.size ≤ 1048576) (hN : 1048580 < N) (k : Bool → Option R) : ZC4 N w k = k (Zge w) := by
 rw [ZwL]
 unfold Zpc
 rw [Zj6 N hw hN, Zba]
 have hl := ZdG w
 refine (Zcu (l := fun n i => ZfZ N w (ZaJ (ZbM w)) ((ZbM w).length : Int) (fun _ => k false) _ n (i : Int)) (len := (ZbM w).length) (p := fun i => Zeh (at_ (ZbM w) i)) (k0 := k false) (k1 := k (inR (w.size : Int) 1 60)) ?_ ?_ (show (ZbM w).length < N by omega)).trans ?_
 ·intro n i hi _
  have hsz : (at_ (ZbM w) i).size ≤ 1048576 := Nat.le_trans (Zkp (Zek hi)) hw
  simp only [ZfZ, Zc4, Zbc hi, Int.natCast_nonneg, if_true, Int.toNat_natCast, ZdA hi, Zag, ZdS, ZKD N hsz (by omega : 1048576 < N)]
  rw [ZaD (i := i) (by omega)]
  have h1 := @ZGI (at_ (ZbM w) i)
  have h2 := @ZBQ (at_ (ZbM w) i)
  unfold Znq
  unfold Zzn ZiO at *
  generalize ((at_ (ZbM w) i).toList == (ByteArray.mk #[46]).toList) = b at *
  generalize ((at_ (ZbM w) i).toList == (ByteArray.mk #[46, 46]).toList) = c at *
  generalize Zeh (at_ (ZbM w) i) = a at *
  cases a <;> cases b <;> cases c <;> first | rfl | exact absurd (h1 rfl) (by decide) | exact absurd (h2 rfl) (by decide)
 ·intro _ n
  simp only [ZfZ, Zc4, Int.lt_irrefl, decide_false, Zw8]
 ·unfold Zge
  have e : (List.range' 0 (ZbM w).length).all (fun i => Zeh (at_ (ZbM w) i)) = (ZbM w).all Zeh := by
   rw [Bool.eq_iff_iff, Zbi, List.all_eq_true]
   exact ⟨fun h p hp => by
    obtain ⟨i, hi, rfl⟩ := List.getElem_of_mem hp
    rw [← ZbW hi]
    exact h i hi, fun h i hi => h _ (Zek hi)⟩
  rw [e]
  cases (ZbM w).all Zeh <;> rfl
theorem ZcC {w : ByteArray} (h : Zge w = true) : 1 ≤ w.size ∧ w.size ≤ 60 := by
 unfold Zge at h
 rw [Bool.and_eq_true, Zb9] at h
 omega
def Zfb (w : ByteArray) : Bool := Zge w && (((at_ (bl w) 0).toNat : Int) == 47)
theorem ZBr {w : ByteArray} (hw : w.size ≤ 1048576) (hN : 1048580 < N) (k : Bool → Option R) : ZGA N w k = k (Zfb w) := by
 rw [ZwF]
 unfold ZoX Zfb
 rw [Zvs N hw hN]
 cases h : Zge w with
 | false => rfl
 | true =>
  have := ZcC h
  simp only
  rw [show (0 : Int) = ((0 : Nat) : Int) from rfl, Zcx w (by rw [← ZbR]; omega)]
  rfl
end Go.VM.VL
set_option linter.unusedSimpArgs false
set_option linter.unusedVariables false
namespace Go.VM.VL
open Go
theorem Zez (c : UInt8) : ∀ (l : List UInt8) (m : Nat), Lib.indexByte l c = (m : Int) → m < l.length ∧ Zbz c l = l.take m :: Zbz c (l.drop (m + 1))
 | [], m, h => by simp [Lib.indexByte] at h
 | b :: l, m, h => by
  unfold Lib.indexByte at h
  by_cases hb : b = c
  ·rw [if_pos (by simp [hb])] at h
   obtain rfl : m = 0 := by omega
   exact ⟨by simp, by rw [Zia hb]; rfl⟩
  ·rw [if_neg (by simp [hb])] at h
   have hge := Lib.indexByte_ge l c
   by_cases h1 : Lib.indexByte l c = -1
   ·rw [if_pos (by simp [h1])] at h; omega
   ·rw [if_neg (by simp [h1])] at h
    obtain ⟨m, rfl⟩ : ∃ k, m = k + 1 := ⟨m - 1, by omega⟩
    obtain ⟨h2, h3⟩ := Zez c l m (by omega)
    refine ⟨by rw [List.length_cons]; omega, ?_⟩
    rw [ZeC hb, h3]
    rfl
theorem Zh4 (c : UInt8) : ∀ (l : List UInt8), Lib.indexByte l c = -1 → Zbz c l = [l]
 | [], h => rfl
 | b :: l, h => by
  unfold Lib.indexByte at h
  by_cases hb : b = c
  ·rw [if_pos (by simp [hb])] at h; omega
  ·rw [if_neg (by simp [hb])] at h
   have hge := Lib.indexByte_ge l c
   by_cases h1 : Lib.indexByte l c = -1
   ·rw [ZeC hb, Zh4 c l h1]; rfl
   ·rw [if_neg (by simp [h1])] at h; omega
def Zc2 (l : List UInt8) : Nat → List UInt8
 | 0 => l
 | i + 1 => (Zc2 l i).drop ((Lib.indexByte (Zc2 l i) 47).toNat + 1)
theorem ZtY (l : List UInt8) : ∀ i, i ≤ l.count 47 → Zbz 47 (Zc2 l i) = (Zbz 47 l).drop i ∧ (i < l.count 47 → ∃ m : Nat, Lib.indexByte (Zc2 l i) 47 = m)
  ∧ (Zc2 l i).length ≤ l.length := by
 have idx : ∀ (r : List UInt8), 2 ≤ (Zbz 47 r).length → ∃ m : Nat, Lib.indexByte r 47 = m := fun r h => by
  have := Lib.indexByte_ge r 47
  by_cases h1 : Lib.indexByte r 47 = -1
  ·rw [Zh4 47 r h1] at h; simp at h
  ·exact ⟨(Lib.indexByte r 47).toNat, by omega⟩
 intro i
 induction i with
 | zero => exact fun _ => ⟨rfl, fun h => idx l (by rw [ZdF]; omega), Nat.le_refl _⟩
 | succ i ih =>
  intro hi
  obtain ⟨h1, h2, h3⟩ := ih (by omega)
  obtain ⟨m, hm⟩ := h2 (by omega)
  obtain ⟨h4, h5⟩ := Zez 47 _ m hm
  have e : Zbz 47 (Zc2 l (i + 1)) = (Zbz 47 l).drop (i + 1) := by
   have : (Zbz 47 (Zc2 l i)).drop 1 = Zbz 47 (Zc2 l (i + 1)) := by
    rw [h5]
    show _ = Zbz 47 ((Zc2 l i).drop ((Lib.indexByte (Zc2 l i) 47).toNat + 1))
    rw [hm]; rfl
   rw [← this, h1, List.drop_drop]
  refine ⟨e, fun h => idx _ (by rw [e, List.length_drop, ZdF]; omega), ?_⟩
  show ((Zc2 l i).drop _).length ≤ _
  rw [List.length_drop]; omega
variable {R : Type} (N : Nat)
def sl : ByteArray := ByteArray.mk #[47]
theorem ZIv (w : ByteArray) (k : Int → Option R) : ZBp N w (ByteArray.mk #[47]) k = k (Lib.indexByte (bl w) 47) := by
 rw [Zu1]
 unfold Zqd
 rw [Zwc]
 unfold ZoM
 show (match ((ByteArray.mk #[47]).toList == w.toList) with | true => k 0 | false => _) = _
 cases h : ((ByteArray.mk #[47]).toList == w.toList) with
 | true =>
  rw [beq_iff_eq, ByteArray.toList_eq, ByteArray.toList_eq] at h
  show k 0 = k (Lib.indexByte w.data.toList 47)
  rw [← h]; rfl
 | false =>
  show ZFr N w _ _ = _
  rw [Zvj]
  unfold Zo2
  rw [Zws]
  rfl
theorem ZIx (w : ByteArray) (k : Int → Option R) : ZAQ N w (ByteArray.mk #[47]) k = k (((bl w).count 47 : Nat) : Int) := by
 rw [ZuK]
 unfold ZoG
 show ZFB N w _ _ = _
 rw [Zu6]
 rfl
theorem ZdJ (l : List ByteArray) : Za9 (ZaJ l) = true := by
 unfold Za9
 rw [List.all_eq_true]
 intro v hv
 obtain ⟨s, _, rfl⟩ := List.mem_map.1 hv
 rfl
theorem ZtZ (w : ByteArray) {i : Nat} (hi : i < (Zbw w).length) : (Zbz 47 (bl w)).drop i = bl (at_ (Zbw w) i) :: (Zbz 47 (bl w)).drop (i + 1) := by
 have hi' : i < (Zbz 47 (bl w)).length := by unfold Zbw at hi; rwa [List.length_map] at hi
 rw [List.drop_eq_getElem_cons hi', ZbW hi]
 simp only [Zbw, List.getElem_map, Zw1]
theorem ZIc {w : ByteArray} (hw : w.size ≤ 1048576) (hN : 1048580 < N) (k0 : List V → Option R) (k1 : Nat → List V → Option R) :
  ZEC N w (ByteArray.mk #[47]) k0 k1 = k1 (Zbw w).length (ZaJ (Zbw w)) := by
 rw [ZvG]
 unfold ZoP
 rw [ZwG]
 unfold Zo0
 let c := (bl w).count 47
 have hc : c ≤ w.size := by rw [ZbR]; exact List.count_le_length
 have hL : (Zbw w).length = c + 1 := by unfold Zbw; rw [List.length_map, ZdF]
 rw [show ((ByteArray.mk #[47]).toList == (ByteArray.mk #[]).toList) = false by rw [ByteArray.toList_eq, ByteArray.toList_eq]; rfl]
 show ZAQ N w (ByteArray.mk #[47]) _ = _
 rw [ZIx]
 show _ = k1 (Zbw w).length (ZaJ (Zbw w))
 rw [ZbE (x := (w.size : Int) + 1) (by omega) (by omega), ZbE (x := (((bl w).count 47 : Nat) : Int) + 1) (by omega) (by omega)]
 have hif : (if (w.size : Int) + 1 < (((bl w).count 47 : Nat) : Int) + 1 then (w.size : Int) + 1 else (((bl w).count 47 : Nat) : Int) + 1) = ((c + 1 : Nat) : Int) := by
  rw [if_neg (by omega)]; rfl
 rw [hif, if_pos ⟨by omega, rfl, by omega⟩, Int.toNat_natCast, ZbE (x := ((c + 1 : Nat) : Int) - 1) (by omega) (by omega)]
 have hlim : ((c + 1 : Nat) : Int) - 1 = (c : Int) := by omega
 rw [hlim]
 let z : V := .str (ByteArray.mk #[])
 have hlen : (ZaJ (Zbw w)).length = c + 1 := by rw [Zba, hL]
 rw [show List.replicate (c + 1) (V.str (ByteArray.mk #[])) = Zea (ZaJ (Zbw w)) z 0 by rw [Ziu, hlen]]
 refine ZbI (l := fun n i => ZeX N (ByteArray.mk #[47]) 0 (c : Int) (c + 1) _ n (ba (Zc2 (bl w) i)) (i : Int) (Zea (ZaJ (Zbw w)) z i)) (len := c) (k1 := k1 (Zbw w).length (ZaJ (Zbw w))) ?_ ?_ (show c < N by omega)
 ·intro n i hi
  obtain ⟨h1, h2, h3⟩ := ZtY (bl w) i (by omega)
  obtain ⟨m, hm⟩ := h2 hi
  obtain ⟨h4, h5⟩ := Zez 47 _ m hm
  have hi' : i < (Zbw w).length := by omega
  rw [h1, ZtZ w hi'] at h5
  have hp : bl (at_ (Zbw w) i) = (Zc2 (bl w) i).take m := (List.cons.inj h5).1
  have hsz : (ba (Zc2 (bl w) i)).size = (Zc2 (bl w) i).length := ZbR _
  rw [← ZbR] at h3
  simp only [ZeX, ZcO, Zbc hi, ZIv, Zw1, hm]
  rw [decide_eq_false (by omega)]
  simp only
  rw [show (m : Int) + 0 = m by omega, ZbE (x := (m : Int)) (by omega) (by omega), if_pos ⟨by omega, by omega⟩, if_pos ⟨by omega, by omega⟩]
  rw [show ((ByteArray.mk #[47]).size : Int) = 1 from rfl, ZaD (i := m) (by omega), ZaD (i := i) (by omega)]
  simp only [Int.toNat_natCast, Nat.zero_add, Zhp (ZaJ (Zbw w)) z (by rw [hlen]; omega : i < _)]
  have hput : ∀ b, putCells z 0 [.str b] = some (.str b) := fun b => rfl
  simp only [hput]
  rw [if_pos ⟨by omega, by omega⟩, ZeF, ZeF, Zw1, List.drop_zero, ← hp, Zw7, Zhl _ _ _ (by rw [hlen]; omega) (ZdA hi'),
   List.take_of_length_le (by rw [hsz]; exact Nat.le_refl _)]
  have hr : Zc2 (bl w) (i + 1) = (Zc2 (bl w) i).drop (m + 1) := by
   show (Zc2 (bl w) i).drop ((Lib.indexByte (Zc2 (bl w) i) 47).toNat + 1) = _
   rw [hm]; rfl
  rw [hr]
 ·intro n
  obtain ⟨h1, h2, h3⟩ := ZtY (bl w) c (Nat.le_refl _)
  simp only [ZeX, ZcO, Int.lt_irrefl, decide_false]
  rw [if_pos ⟨by omega, by omega⟩]
  simp only [Int.toNat_natCast, Nat.zero_add, Zhp (ZaJ (Zbw w)) z (by rw [hlen]; omega : c < _)]
  have hput : ∀ b, putCells z 0 [.str b] = some (.str b) := fun b => rfl
  simp only [hput]
  have hlast : nth (ZaJ (Zbw w)) c = some (.str (ba (Zc2 (bl w) c))) := by
   rw [ZdA (by omega)]
   rw [ZtZ w (by omega), List.drop_eq_nil_of_le (by rw [ZdF]; exact Nat.le_refl _)] at h1
   have h6 : Zbz 47 (Zc2 (bl w) c) = [Zc2 (bl w) c] := by
    apply Zh4
    have := Lib.indexByte_ge (Zc2 (bl w) c) 47
    by_cases h7 : Lib.indexByte (Zc2 (bl w) c) 47 = -1
    ·exact h7
    ·obtain ⟨m, hm⟩ : ∃ m : Nat, Lib.indexByte (Zc2 (bl w) c) 47 = m := ⟨(Lib.indexByte (Zc2 (bl w) c) 47).toNat, by omega⟩
     obtain ⟨_, h8⟩ := Zez 47 _ m hm
     rw [h1] at h8
     exact absurd (List.cons.inj h8).2.symm (Zeg 47 _)
   rw [h6] at h1
   rw [(List.cons.inj h1).1, Zw7]
  rw [Zhl _ _ _ (by rw [hlen]; omega) hlast, show Zea (ZaJ (Zbw w)) z (c + 1) = ZaJ (Zbw w) by rw [← hlen]; exact Zkv _ _,
   ZaD (i := c) (by omega), if_pos ⟨by omega, by omega⟩, ZdJ, hL]
  rfl
def ZbN (L : List ByteArray) : List ByteArray := L.filter fun p => !ZbX p
def ZtK (L : List ByteArray) (j : Nat) : List ByteArray := ZbN (L.take j) ++ L.drop (ZbN (L.take j)).length
theorem ZjB (L : List ByteArray) (j : Nat) : (ZbN (L.take j)).length ≤ j := Nat.le_trans (List.length_filter_le _ _) (by rw [List.length_take]; omega)
theorem Zmr {L : List ByteArray} {j : Nat} (h : j ≤ L.length) : (ZtK L j).length = L.length := by
 have := ZjB L j
 unfold ZtK
 rw [List.length_append, List.length_drop]; omega
theorem ZIh {L : List ByteArray} {j : Nat} (h : j < L.length) : nth (ZaJ (ZtK L j)) j = some (.str (at_ L j)) := by
 have := ZjB L j
 rw [ZdA (by rw [Zmr (by omega)]; exact h), ZbW (by rw [Zmr (by omega)]; exact h), ZbW h]
 congr 2
 unfold ZtK
 rw [List.getElem_append_right (by omega), List.getElem_drop]
 congr 1
 omega
theorem ZD6 {L : List ByteArray} {j : Nat} (h : j < L.length) (hp : ZbX (at_ L j) = false) : Za3 (ZaJ (ZtK L j)) (ZbN (L.take j)).length (.str (at_ L j)) = ZaJ (ZtK L (j + 1)) := by
 have h2 := ZjB L j
 have e : ZbN (L.take (j + 1)) = ZbN (L.take j) ++ [at_ L j] := by
  unfold ZbN
  rw [ZdM _ _ h, hp]; rfl
 unfold ZaJ
 rw [ZAh V.str, Zby]
 congr 1
 unfold ZtK
 rw [e, List.set_append_right _ _ (Nat.le_refl _), Nat.sub_self, List.length_append, List.append_assoc]
 congr 1
 have hd : (ZbN (L.take j)).length < L.length := by omega
 rw [List.drop_eq_getElem_cons hd]
 rfl
theorem ZA8 {L : List ByteArray} {j : Nat} (h : j < L.length) (hp : ZbX (at_ L j) = true) : ZtK L (j + 1) = ZtK L j ∧ (ZbN (L.take (j + 1))).length = (ZbN (L.take j)).length := by
 have e : ZbN (L.take (j + 1)) = ZbN (L.take j) := by
  unfold ZbN
  rw [ZdM _ _ h, hp]
  exact List.append_nil _
 exact ⟨by unfold ZtK; rw [e], by rw [e]⟩
theorem Zj2 (v : Bool) (s : S) (L : List ByteArray) : Zbl (Zbh v s 11) (ZaJ L) = some (ZaJ L) :=
 Zcy fun u hu => by obtain ⟨b, _, rfl⟩ := List.mem_map.1 hu; rfl
theorem ZxU (L : List ByteArray) : (ZaJ L).all V.plain = true := by
 rw [List.all_eq_true]; intro u hu; obtain ⟨b, _, rfl⟩ := List.mem_map.1 hu; rfl
theorem ZCc (L : List ByteArray) : (ZaJ L).map V.lent = ZaJ L := by
 unfold ZaJ; rw [List.map_map]; rfl
theorem Zny {L : List ByteArray} (hl : L.length ≤ 1048577) (hN : 1048580 < N) (f : Fl) (k : Int → Option R) :
  ZEe N (ZaJ L) f k = k (Zgh (fun i => ZbX (at_ L i)) L.length) := by
 rw [ZuU]
 unfold Zqm
 rw [Zba]
 refine (Zb2 (β := Nat) (l := fun n i => ZfQ N (ZaJ L) f (L.length : Int) _ _ n (i : Int)) (len := L.length) (q := fun i => if ZbX (at_ L i) then some i else none) (kb := fun i => k (i : Int)) (k1 := k (-1)) ?_ ?_ (show L.length < N by omega)).trans ?_
 ·intro n i hi _
  simp only [ZfQ, Zdq, Zbc hi, Int.natCast_nonneg, if_true, Int.toNat_natCast, ZdA hi, Zag, ZdS]
  rw [Zmt]
  unfold ZkI
  rw [ZaD (i := i) (by omega), show ((at_ L i).toList == (ByteArray.mk #[]).toList) = ZbX (at_ L i) from rfl]
  cases ZbX (at_ L i) <;> rfl
 ·intro _ n
  simp only [ZfQ, Zdq, Int.lt_irrefl, decide_false]
 ·unfold Zgh
  generalize (List.range' 0 L.length).findSome? _ = o
  cases o <;> rfl
theorem ZyB {q : Nat → Bool} {len i : Nat} (h : (List.range' 0 len).findSome? (fun i => if q i then some i else none) = some i) : i < len ∧ q i = true ∧ ∀ j, j < i → q j = false := by
 have : ∀ (d a : Nat), (List.range' a d).findSome? (fun i => if q i then some i else none) = some i → i < a + d ∧ a ≤ i ∧ q i = true ∧ ∀ j, a ≤ j → j < i → q j = false := by
  intro d
  induction d with
  | zero => intro a h; cases h
  | succ d ih =>
   intro a h
   rw [List.range'_succ, List.findSome?_cons] at h
   cases hq : q a with
   | true =>
    rw [hq] at h
    obtain rfl : a = i := by simpa using h
    exact ⟨by omega, Nat.le_refl _, hq, fun j h1 h2 => by omega⟩
   | false =>
    rw [hq] at h
    obtain ⟨h1, h2, h3, h4⟩ := ih (a + 1) h
    refine ⟨by omega, by omega, h3, fun j h5 h6 => ?_⟩
    rcases Nat.lt_or_ge a j with h7 | h7
    ·exact h4 j h7 h6
    ·obtain rfl : a = j := by omega
     exact hq
 obtain ⟨h1, _, h2, h3⟩ := this len 0 h
 exact ⟨by omega, h2, fun j hj => h3 j (Nat.zero_le _) hj⟩
theorem ZmK {L : List ByteArray} (hl : L.length ≤ 1048577) (hN : 1048580 < N) (k : Nat → List V → Option R) :
  ∃ es : List V, ZDu N L.length (ZaJ L) k = k (ZbN L).length (ZaJ (ZbN L) ++ es) ∧ Za9 (ZaJ (ZbN L) ++ es) = true := by
 rw [Zt6]
 unfold ZnD
 simp only [List.drop_zero]
 rw [List.take_of_length_le (by rw [Zba]; exact Nat.le_refl _)]
 simp only [Zj2]
 rw [ZCc, Zny N hl hN, Zba, Nat.zero_add]
 simp only [Nat.le_refl, decide_true, Zao]
 unfold Zgh
 cases h : (List.range' 0 L.length).findSome? (fun i => if ZbX (at_ L i) = true then some i else none) with
 | none =>
  have h2 := ZcI.1 h
  have e : ZbN L = L := by
   unfold ZbN
   rw [List.filter_eq_self]
   intro p hp
   obtain ⟨i, hi, rfl⟩ := List.getElem_of_mem hp
   have := h2 i hi
   rw [ZbW hi] at this
   cases he : ZbX L[i] with
   | true => rw [he] at this; simp at this
   | false => rfl
  refine ⟨[], ?_, ?_⟩
  ·rw [e, List.append_nil, ZdJ]; rfl
  ·rw [List.append_nil, ZdJ]
 | some i =>
  obtain ⟨hi, hq, hlt⟩ := ZyB h
  have hne : ((i : Int) == -1) = false := beq_false_of_ne (by omega)
  rw [hne]
  have e0 : ZbN (L.take (i + 1)) = L.take i := by
   have e1 : ZbN (L.take i) = L.take i := by
    unfold ZbN
    rw [List.filter_eq_self]
    intro p hp
    obtain ⟨j, hj, rfl⟩ := List.getElem_of_mem hp
    rw [List.length_take] at hj
    have := hlt j (by omega)
    rw [ZbW (by omega)] at this
    simp [this]
   rw [← e1]
   unfold ZbN
   rw [ZdM _ _ hi, hq]
   exact List.append_nil _
  have hl0 : (ZbN (L.take (i + 1))).length = i := by rw [e0, List.length_take]; omega
  have hs0 : ZtK L (i + 1) = L := by unfold ZtK; rw [hl0, e0, List.take_append_drop]
  refine ⟨?es, ?_, ?_⟩
  case es => exact List.replicate (L.length - (ZbN L).length) (.str (ByteArray.mk #[]))
  ·have hfl : (ZbN L).length ≤ L.length := List.length_filter_le _ _
   have hfin : ZtK L L.length = ZbN L ++ L.drop (ZbN L).length := by unfold ZtK; rw [List.take_of_length_le (Nat.le_refl _)]
   have hfill : Zgo (ZaJ (ZbN L ++ L.drop (ZbN L).length)) (ZbN L).length (L.length - (ZbN L).length) (.str (ByteArray.mk #[])) = ZaJ (ZbN L) ++ List.replicate (L.length - (ZbN L).length) (.str (ByteArray.mk #[])) := by
    unfold Zgo ZaJ
    rw [List.map_append, List.take_append_of_le_length (by rw [List.length_map]; exact Nat.le_refl _), List.take_of_length_le (by rw [List.length_map]; exact Nat.le_refl _),
     List.drop_eq_nil_of_le (by simp only [List.length_append, List.length_map, List.length_drop]; omega), List.append_nil]
   have hnr : Za9 (ZaJ (ZbN L) ++ List.replicate (L.length - (ZbN L).length) (.str (ByteArray.mk #[]))) = true := by
    unfold Za9
    rw [List.all_append]
    have h1 := ZdJ (ZbN L)
    unfold Za9 at h1
    rw [h1, Bool.true_and, List.all_eq_true]
    intro v hv
    rw [List.eq_of_mem_replicate hv]; rfl
   have hput : ∀ b : ByteArray, ∀ u : ByteArray, putCells (.str u) 0 [.str b] = some (.str b) := fun b u => rfl
   show ZeT N L.length _ N (i : Int) (IntKind.i64.wrap ((i : Int) + 1)) (ZaJ L) = _
   rw [ZaD (i := i) (by omega)]
   have hrun := Zov (R := R) (len := L.length) (k1 := k (ZbN L).length (ZaJ (ZbN L) ++ List.replicate (L.length - (ZbN L).length) (.str (ByteArray.mk #[]))))
    (l := fun n j => ZeT N L.length (fun x17 e18 => (if (0 : Int) ≤ x17 ∧ x17 ≤ (L.length : Int) then Zao (decide ((0 + (x17 : Int).toNat) + (L.length - (x17 : Int).toNat) ≤ e18.length)) ((if (0 : Int) ≤ x17 ∧ x17 ≤ (L.length : Int) then Zao (Za9 (Zgo e18 (0 + (x17 : Int).toNat) (L.length - (x17 : Int).toNat) (.str (ByteArray.mk #[]))) && true) (k ((x17 : Int).toNat) (Zgo e18 (0 + (x17 : Int).toNat) (L.length - (x17 : Int).toNat) (.str (ByteArray.mk #[])))) else none)) else none)) n ((ZbN (L.take j)).length : Int) (j : Int) (ZaJ (ZtK L j)))
    (fun n j hj => by
     have hf := ZjB L j
     simp only [ZeT, Zdm, Zbc hj]
     rw [if_pos ⟨by omega, by omega⟩]
     simp only [Int.toNat_natCast, Nat.zero_add, ZIh hj]
     show ZC5 N (at_ L j) _ = _
     rw [Zmt]
     unfold ZkI
     rw [show ((at_ L j).toList == (ByteArray.mk #[]).toList) = ZbX (at_ L j) from rfl]
     cases he : ZbX (at_ L j) with
     | true =>
      obtain ⟨h1, h2⟩ := ZA8 hj he
      simp only [Bool.not_true]
      rw [ZaD (i := j) (by omega), h1, h2]
     | false =>
      have e : (ZbN (L.take (j + 1))).length = (ZbN (L.take j)).length + 1 := by
       unfold ZbN
       rw [ZdM _ _ hj, he, List.length_append]; rfl
      simp only [Bool.not_false]
      rw [if_pos ⟨by omega, by omega⟩, ZdA (by rw [Zmr (by omega)]; omega)]
      simp only [hput]
      rw [ZD6 hj he, ZaD (by omega), ZaD (by omega), e])
    (fun n => by
     simp only [ZeT, Zdm, Int.lt_irrefl, decide_false]
     rw [List.take_of_length_le (Nat.le_refl _), hfin]
     rw [if_pos ⟨by omega, by omega⟩, if_pos ⟨by omega, by omega⟩]
     simp only [Int.toNat_natCast, Nat.zero_add, hfill, hnr]
     rw [decide_eq_true (by rw [Zba, List.length_append, List.length_drop]; omega)]
     rfl) (L.length - (i + 1)) N (i + 1) (by omega) (by omega)
   rw [hl0, hs0] at hrun
   exact hrun
  ·unfold Za9
   rw [List.all_append]
   have h1 := ZdJ (ZbN L)
   unfold Za9 at h1
   rw [h1, Bool.true_and, List.all_eq_true]
   intro v hv
   rw [List.eq_of_mem_replicate hv]; rfl
theorem Zj7 {w : ByteArray} (hw : w.size ≤ 1048576) (hN : 1048580 < N) (k : List V → Option R) : ZpW N w k = k (ZaJ (ZbM w)) := by
 rw [Zwv]
 unfold ZpH
 rw [ZIc N hw hN, ZdJ]
 simp only [Bool.true_and, Bool.and_true, Zao]
 have hl := Zib w
 obtain ⟨es, he, hr⟩ := ZmK N (L := Zbw w) (by omega) hN (fun k4 e5 => (match Zbl (Zbh false [some ⟨e5, 1, 9, 0⟩] 11) ((e5.drop 0).take k4) with
   | some e6 => Zao (decide (0 + k4 ≤ e5.length)) (Zao (e6.all V.plain) (k e6))
   | none => none))
 refine he.trans ?_
 have e1 : ((ZaJ (ZbN (Zbw w)) ++ es).drop 0).take (ZbN (Zbw w)).length = ZaJ (ZbN (Zbw w)) := by
  rw [List.drop_zero, List.take_append_of_le_length (by rw [Zba]; exact Nat.le_refl _), List.take_of_length_le (by rw [Zba]; exact Nat.le_refl _)]
 simp only [e1, Zj2, ZxU, Zao]
 rw [decide_eq_true (by rw [List.length_append, Zba]; omega)]
 rfl
theorem ZkD {L : List ByteArray} (hl : L.length ≤ 1048577) (hz : ∀ p ∈ L, p.size ≤ 1048576) (hN : 1048580 < N) (f : Fl) (k : Bool → Option R) :
  ZFN N (ZaJ L) f k = k (!L.all Zeh) := by
 rw [Zvl]
 unfold ZnA
 rw [Zud]
 unfold Zoq
 rw [Zba]
 refine (Zb2 (β := Nat) (l := fun n i => ZfY N (ZaJ L) _ (L.length : Int) _ _ n (i : Int)) (len := L.length) (q := fun i => if !Zeh (at_ L i) then some i else none) (kb := fun i => k (decide ((i : Int) ≥ 0))) (k1 := k (decide ((-1 : Int) ≥ 0))) ?_ ?_ (show L.length < N by omega)).trans ?_
 ·intro n i hi _
  simp only [ZfY, Zdf, Zbc hi, Int.natCast_nonneg, if_true, Int.toNat_natCast, ZdA hi, Zag, ZdS]
  rw [ZwN]
  unfold ZnT
  rw [ZvU N (hz _ (Zek hi)) (by omega), ZaD (i := i) (by omega)]
  cases Zeh (at_ L i) <;> rfl
 ·intro _ n
  simp only [ZfY, Zdf, Int.lt_irrefl, decide_false]
 ·have := ZiK (q := fun i => !Zeh (at_ L i)) (len := L.length)
  unfold Zgh at this
  simp only [Bool.not_not] at this
  have e : (List.range' 0 L.length).all (fun i => Zeh (at_ L i)) = L.all Zeh := by
   rw [Bool.eq_iff_iff, Zbi, List.all_eq_true]
   exact ⟨fun h p hp => by
    obtain ⟨i, hi, rfl⟩ := List.getElem_of_mem hp
    rw [← ZbW hi]
    exact h i hi, fun h i hi => h _ (Zek hi)⟩
  rw [← e, ← this]
  generalize (List.range' 0 L.length).findSome? _ = o
  cases o <;> rfl
theorem ZkL {w : ByteArray} (hw : w.size ≤ 1048576) (hN : 1048580 < N) (k : Bool → Option R) : ZxT N w k = k (Zge w) := by
 rw [Zv6]
 unfold Zqs
 rw [Zv8]
 unfold ZpD Zge
 rw [show (w.toList == (ByteArray.mk #[]).toList) = ZbX w from rfl, Zys, Zj7 N hw hN]
 have hl := ZdG w
 rw [ZkD N (by omega) (fun p hp => Nat.le_trans (Zkp hp) hw) hN]
 unfold inR
 by_cases h1 : w.size = 0
 ·rw [decide_eq_true h1, decide_eq_false (p := 1 ≤ (w.size : Int)) (by omega), Bool.false_and, Bool.and_false]
  cases decide ((w.size : Int) ≤ 60) <;> rfl
 ·rw [decide_eq_false h1, decide_eq_true (p := 1 ≤ (w.size : Int)) (by omega), Bool.true_and]
  cases decide ((w.size : Int) ≤ 60) <;> cases (ZbM w).all Zeh <;> rfl
theorem ZB3 {w : ByteArray} (hw : w.size ≤ 1048576) (hN : 1048580 < N) (k : Bool → Option R) : ZEn N w k = k (Zfb w) := by
 rw [ZuP]
 unfold ZoJ Zfb
 rw [ZkL N hw hN]
 cases h : Zge w with
 | false => rfl
 | true =>
  have := ZcC h
  simp only
  rw [show (0 : Int) = ((0 : Nat) : Int) from rfl, Zcx w (by rw [← ZbR]; omega)]
  rfl
end Go.VM.VL
set_option linter.unusedSimpArgs false
set_option linter.unusedVariables false
namespace Go.VM.VL
open Go
variable {R : Type} (N : Nat)
def Zee (l : List Nod) (i : Nat) : Nat := Zbm (fun i => (at_ l i).data.size) i
theorem ZAj {l : List Nod} (hl : Small l) (hN : 1048580 < N) (f : Fl) (room : Int) (k : Int → Option R) : ZFV N (nodsV l) f room k = k (Zee l l.length : Nat) := by
 rw [Zvi]
 unfold ZpL
 rw [ZbA]
 have hll := hl.len
 refine ZbI (l := fun n i => ZfR N (nodsV l) _ (l.length : Int) (nodsV l) f room _ n (Zee l i : Nat) (i : Int)) (len := l.length) (k1 := k (Zee l l.length : Nat)) ?_ ?_ (show l.length < N by omega)
 ·intro n i hi
  have h1 := ZeA (fun i => (at_ l i).data.size) (a := i + 1) (b := l.length) (by omega)
  have h2 := hl.sum
  have h3 : Zbm (fun i => (at_ l i).data.size) (i + 1) = Zee l i + (at_ l i).data.size := rfl
  simp only [ZfR, Zc1, Zbc hi, Int.natCast_nonneg, if_true, Int.toNat_natCast, Zbe hi, Zag, ZbD]
  rw [ZbE (by omega) (by omega), ZaD (i := i) (by omega)]
  rfl
 ·intro n
  simp only [ZfR, Zc1, Int.lt_irrefl, decide_false]
theorem ZBF {l : List Nod} (hl : Small l) (hN : 1048580 < N) (f : Fl) (room : Int) (k : Int → Option R) : ZEb N (nodsV l) f room k = k (Zee l l.length : Nat) := by
 rw [Zwu]
 unfold Zpp
 rw [ZbA]
 have hll := hl.len
 refine ZbI (l := fun n i => ZfU N (nodsV l) _ (l.length : Int) (nodsV l) f room _ n (Zee l i : Nat) (i : Int)) (len := l.length) (k1 := k (Zee l l.length : Nat)) ?_ ?_ (show l.length < N by omega)
 ·intro n i hi
  have h1 := ZeA (fun i => (at_ l i).data.size) (a := i + 1) (b := l.length) (by omega)
  have h2 := hl.sum
  have h3 : Zbm (fun i => (at_ l i).data.size) (i + 1) = Zee l i + (at_ l i).data.size := rfl
  simp only [ZfU, Zc6, Zbc hi, Int.natCast_nonneg, if_true, Int.toNat_natCast, Zbe hi, Zag, ZbD]
  rw [ZbE (by omega) (by omega), ZaD (i := i) (by omega)]
  rfl
 ·intro n
  simp only [ZfU, Zc6, Int.lt_irrefl, decide_false]
def ZcA (es : List Ent) (x : Int) (j : Nat) : Nat := Zbm (fun j => ((at_ es j).2 == x).toNat) j
def Za2 (l : List Nod) (x : Int) (i : Nat) : Nat := Zbm (fun i => ZcA (at_ l i).es x (at_ l i).es.length) i
theorem ZjR (es : List Ent) (x : Int) : ∀ j, ZcA es x j ≤ j
 | 0 => Nat.le_refl _
 | j + 1 => by
  have ih := ZjR es x j
  show ZcA es x j + ((at_ es j).2 == x).toNat ≤ _
  have := Bool.toNat_le ((at_ es j).2 == x)
  omega
theorem Zio {l : List Nod} (hl : Small l) (x : Int) {i : Nat} (h : i ≤ l.length) : Za2 l x i ≤ 1048576 := by
 have h1 := Zef (g := fun i => ZcA (at_ l i).es x (at_ l i).es.length) (h := fun i => (at_ l i).es.length) (fun i => ZjR _ _ _) i
 have h2 := ZeA (fun i => (at_ l i).es.length) h
 have h3 := hl.ents
 unfold Za2; omega
theorem ZC9 (es : List Ent) (hes : es.length ≤ 1048576) (hN : 1048580 < N) (x : Int) (c0 : Nat) (hc : c0 ≤ 1048576) (e_3 : List V) (f_4 : Fl) (x_5 x_6 : Int) (f_8 : Fl) (e_11 : List V) (f_12 : Fl) (x_13 x_14 x_15 x_16 x_17 x_18 : Int) (w_19 : ByteArray) (e_20 : List V) (f_21 : Fl) (k0 : Int → Option R) :
  ZeY N x e_3 f_4 x_5 x_6 (ZbB es) f_8 (es.length : Int) e_11 f_12 x_13 x_14 x_15 x_16 x_17 x_18 w_19 e_20 f_21 k0 N (c0 : Int) 0 = k0 ((c0 + ZcA es x es.length : Nat) : Int) := by
 refine ZbI (l := fun n i => ZeY N x e_3 f_4 x_5 x_6 (ZbB es) f_8 (es.length : Int) e_11 f_12 x_13 x_14 x_15 x_16 x_17 x_18 w_19 e_20 f_21 k0 n ((c0 + ZcA es x i : Nat) : Int) (i : Int)) (len := es.length) (k1 := k0 ((c0 + ZcA es x es.length : Nat) : Int)) ?_ ?_ (show es.length < N by omega)
 ·intro n i hi
  have h1 := ZjR es x i
  have h2 : ZcA es x (i + 1) = ZcA es x i + ((at_ es i).2 == x).toNat := rfl
  simp only [ZeY, Zc8, Zbc hi, Int.natCast_nonneg, if_true, Int.toNat_natCast, ZbP hi, Zag, Zcw]
  rw [h2, ZaD (i := i) (by omega)]
  cases h : ((at_ es i).2 == x) with
  | true => simp only; rw [ZaD (i := c0 + ZcA es x i) (by omega)]; rfl
  | false => rfl
 ·intro n
  simp only [ZeY, Zc8, Int.lt_irrefl, decide_false]
theorem ZB0 {l : List Nod} (hl : Small l) (hN : 1048580 < N) (f : Fl) (room x : Int) (k : Int → Option R) : ZFa N (nodsV l) f room x k = k (Za2 l x l.length : Nat) := by
 rw [ZuX]
 unfold Zoo
 rw [ZbA]
 have hll := hl.len
 refine ZbI (l := fun n i => Zgd N x (nodsV l) _ (l.length : Int) (nodsV l) f room _ n (Za2 l x i : Nat) (i : Int)) (len := l.length) (k1 := k (Za2 l x l.length : Nat)) ?_ ?_ (show l.length < N by omega)
 ·intro n i hi
  simp only [Zgd, Zdk, Zbc hi, Int.natCast_nonneg, if_true, Int.toNat_natCast, Zbe hi, Zag, ZbD, Zbv]
  rw [ZC9 N _ (hl.es i hi) hN _ _ (Zio hl x (Nat.le_of_lt hi)), ZaD (i := i) (by omega)]
  rfl
 ·intro n
  simp only [Zgd, Zdk, Int.lt_irrefl, decide_false]
def Zvk (lo : Int) (l : List Nod) (es : List Ent) (j : Nat) : Bool :=
 Znq (at_ es j).1 && (decide (j = 0) || Op.bytesLess (at_ es (j - 1)).1.toList (at_ es j).1.toList) && (inR (at_ es j).2 lo ((l.length : Int) - 1) && ((at_ l (at_ es j).2.toNat).kind != 0))
def Zn8 (lo : Int) (l : List Nod) (es : List Ent) : Bool := (List.range' 0 es.length).all (Zvk lo l es)
theorem ZrK {l : List Nod} (hll : l.length ≤ 1048576) {es : List Ent} (hes : es.length ≤ 1048576) (hz : ∀ j, j < es.length → (at_ es j).1.size ≤ 1048576) (hN : 1048580 < N) (f g : Fl) (room : Int) (k : Bool → Option R) :
  ZEM N (nodsV l) f room (ZbB es) g k = k (Zn8 1 l es) := by
 rw [ZvV]
 unfold Zpi
 rw [Zbv]
 refine (Zcu (l := fun n i => Zgv N (ZbB es) g (ZbB es) _ (es.length : Int) (nodsV l) f room (fun _ => k false) (fun _ => k true) n (i : Int)) (len := es.length) (p := Zvk 1 l es) (k0 := k false) (k1 := k true) ?_ ?_ (show es.length < N by omega)).trans ?_
 ·intro n i hi _
  simp only [Zgv, Zdp, Zbc hi, Int.natCast_nonneg, if_true, Int.toNat_natCast, ZbP hi, Zag, Zcw, ZKD N (hz i hi) (by omega : 1048576 < N), ZbA, Zw8]
  rw [ZaD (i := i) (by omega), ZbE (x := (l.length : Int) - 1) (by omega) (by omega)]
  unfold Zvk
  cases h : inR (at_ es i).2 1 ((l.length : Int) - 1) with
  | false =>
   cases Znq (at_ es i).1 with
   | false => rfl
   | true =>
    by_cases h0 : i = 0
    ·subst h0; rfl
    ·rw [decide_eq_true (p := ((i : Int) > 0)) (by omega), decide_eq_false h0]
     simp only [Bool.not_true, Bool.true_and, Bool.false_or]
     rw [ZbE (x := (i : Int) - 1) (by omega) (by omega), if_pos (by omega), show ((i : Int) - 1).toNat = i - 1 by omega, ZbP (by omega)]
     simp only [Zag, Zcw]
     cases Op.bytesLess (at_ es (i - 1)).1.toList (at_ es i).1.toList <;> rfl
  | true =>
   obtain ⟨h1, h2⟩ := Zb9.1 h
   have h3 : 0 ≤ (at_ es i).2 := by omega
   simp only [if_pos h3, Zbe (show (at_ es i).2.toNat < l.length by omega), Zag, ZbD]
   rw [show ((at_ l (at_ es i).2.toNat).kind != 0) = !((at_ l (at_ es i).2.toNat).kind == 0) from rfl]
   generalize ((at_ l (at_ es i).2.toNat).kind == 0) = c
   cases Znq (at_ es i).1 with
   | false => rfl
   | true =>
    by_cases h0 : i = 0
    ·subst h0; cases c <;> rfl
    ·rw [decide_eq_true (p := ((i : Int) > 0)) (by omega), decide_eq_false h0]
     simp only [Bool.not_true, Bool.true_and, Bool.false_or]
     rw [ZbE (x := (i : Int) - 1) (by omega) (by omega), if_pos (by omega), show ((i : Int) - 1).toNat = i - 1 by omega, ZbP (by omega)]
     simp only [Zag, Zcw]
     cases Op.bytesLess (at_ es (i - 1)).1.toList (at_ es i).1.toList <;> cases c <;> rfl
 ·intro _ n
  simp only [Zgv, Zdp, Int.lt_irrefl, decide_false]
 ·show (if Zn8 1 l es = true then _ else _) = _
  cases Zn8 1 l es <;> rfl
def ZxB (n : Nod) : Bool := (n.mode == 0) && (n.uid == 0) && (n.gid == 0) && (n.time == 0) && ZbX n.data && ((n.es.length : Int) == 0)
def Zrn (lo : Int) (l : List Nod) (n : Nod) : Bool :=
 if n.kind = 1 then decide ((n.data.size : Int) ≤ 60) && ((n.es.length : Int) == 0)
 else if n.kind = 2 then ZbX n.data && Zn8 lo l n.es
 else if n.kind = 3 then Zge n.data && ((n.es.length : Int) == 0)
 else false
def ZjM (lo : Int) (l : List Nod) (n : Nod) : Bool :=
 if n.kind = 0 then ZxB n else inR n.mode 0 511 && inR n.uid 0 99 && inR n.gid 0 99 && inR n.time 0 1000000 && Zrn lo l n
structure NodSmall (n : Nod) : Prop where
 data : n.data.size ≤ 1048576
 es : n.es.length ≤ 1048576
 name : ∀ j, j < n.es.length → (at_ n.es j).1.size ≤ 1048576
theorem Small.nod {l : List Nod} (h : Small l) {i : Nat} (hi : i < l.length) : NodSmall (at_ l i) := ⟨h.data i hi, h.es i hi, h.name i hi⟩
theorem ZGt {l : List Nod} (hll : l.length ≤ 1048576) {n : Nod} (hn : NodSmall n) (hN : 1048580 < N) (f g : Fl) (room : Int) (k : Bool → Option R) :
  ZGd N (nodsV l) f room n.kind n.mode n.uid n.gid n.time n.data (ZbB n.es) g k = k (ZjM 1 l n) := by
 rw [Zt9]
 unfold Zpt
 rw [ZuB]
 unfold Zpw
 simp only [Zw8, ZrK N hll hn.es hn.name hN, Zvs N hn.data hN, Zbv]
 unfold ZjM Zrn ZxB
 rw [show (n.data.toList == (ByteArray.mk #[]).toList) = ZbX n.data from rfl]
 by_cases h0 : n.kind = 0
 ·rw [if_pos h0, beq_iff_eq.2 h0]
  cases (n.mode == 0) <;> cases (n.uid == 0) <;> cases (n.gid == 0) <;> cases (n.time == 0) <;> cases ZbX n.data <;> rfl
 ·rw [if_neg h0, beq_false_of_ne h0]
  cases inR n.mode 0 511 <;> cases inR n.uid 0 99 <;> cases inR n.gid 0 99 <;> cases inR n.time 0 1000000 <;> try rfl
  simp only [Bool.not_true, Bool.true_and]
  by_cases h1 : n.kind = 1
  ·rw [if_pos h1, beq_iff_eq.2 h1]
   cases decide ((n.data.size : Int) ≤ 60) <;> rfl
  ·rw [if_neg h1, beq_false_of_ne h1]
   by_cases h2 : n.kind = 2
   ·rw [if_pos h2, beq_iff_eq.2 h2]
    cases ZbX n.data <;> rfl
   ·rw [if_neg h2, beq_false_of_ne h2]
    by_cases h3 : n.kind = 3
    ·rw [if_pos h3, beq_iff_eq.2 h3]
     cases Zge n.data <;> rfl
    ·rw [if_neg h3, beq_false_of_ne h3]
theorem ZBd {l : List Nod} (hll : l.length ≤ 1048576) (f : Fl) (room x : Int) (k : Bool → Option R) :
  ZBW N (nodsV l) f room x k = k (inR x 0 ((l.length : Int) - 1) && ((at_ l x.toNat).kind != 0)) := by
 rw [Zvw]
 unfold Zoc
 rw [ZyF, ZbA, ZbE (x := (l.length : Int) - 1) (by omega) (by omega)]
 cases h : inR x 0 ((l.length : Int) - 1) with
 | false => rfl
 | true =>
  obtain ⟨h1, h2⟩ := Zb9.1 h
  simp only
  rw [if_pos h1, Zbe (by omega)]
  rfl
theorem ZGG {l : List Nod} (hll : l.length ≤ 1048576) {es : List Ent} (hes : es.length ≤ 1048576) (hz : ∀ j, j < es.length → (at_ es j).1.size ≤ 1048576) (hN : 1048580 < N) (f g h : Fl) (room x_8 x_9 x_10 x_11 x_12 : Int) (w : ByteArray) (a b : Option R) :
  ZeG N (ZbB es) f (es.length : Int) (nodsV l) g room x_8 x_9 x_10 x_11 x_12 w (ZbB es) h (fun _ => a) (fun _ => b) N 0 = if Zn8 0 l es then b else a := by
 refine Zcu (l := fun n i => ZeG N (ZbB es) f (es.length : Int) (nodsV l) g room x_8 x_9 x_10 x_11 x_12 w (ZbB es) h (fun _ => a) (fun _ => b) n (i : Int)) (len := es.length) (p := Zvk 0 l es) (k0 := a) (k1 := b) ?_ ?_ (show es.length < N by omega)
 ·intro n i hi _
  simp only [ZeG, Zde, Zbc hi, Int.natCast_nonneg, if_true, Int.toNat_natCast, ZbP hi, Zag, Zcw, ZyH N (hz i hi) (by omega : 1048576 < N), ZBd N hll]
  rw [ZaD (i := i) (by omega)]
  unfold Zvk
  generalize (inR (at_ es i).2 0 ((l.length : Int) - 1) && ((at_ l (at_ es i).2.toNat).kind != 0)) = c
  cases Znq (at_ es i).1 with
  | false => rfl
  | true =>
   by_cases h0 : i = 0
   ·subst h0
    cases c <;> rfl
   ·rw [decide_eq_true (p := ((i : Int) > 0)) (by omega), decide_eq_false h0]
    simp only [Bool.not_true, Bool.true_and, Bool.false_or]
    rw [ZbE (x := (i : Int) - 1) (by omega) (by omega), if_pos (by omega), show ((i : Int) - 1).toNat = i - 1 by omega, ZbP (by omega)]
    simp only [Zag, Zcw]
    cases Op.bytesLess (at_ es (i - 1)).1.toList (at_ es i).1.toList <;> cases c <;> rfl
 ·intro _ n
  simp only [ZeG, Zde, Int.lt_irrefl, decide_false]
theorem ZDI {l : List Nod} (hll : l.length ≤ 1048576) {n : Nod} (hn : NodSmall n) (hN : 1048580 < N) (f g : Fl) (room : Int) (k : Bool → Option R) :
  ZES N (nodsV l) f room n.kind n.mode n.uid n.gid n.time n.data (ZbB n.es) g k = k (ZjM 0 l n) := by
 rw [ZtU]
 unfold Zo1
 rw [Zwi, Zm2, ZwS, ZvJ]
 unfold Zog ZkV ZnS ZpA
 simp only [ZyF, ZkL N hn.data hN, Zbv, ZGG N hll hn.es hn.name hN]
 unfold ZjM Zrn ZxB
 rw [show (n.data.toList == (ByteArray.mk #[]).toList) = ZbX n.data from rfl]
 by_cases h0 : n.kind = 0
 ·rw [if_pos h0, beq_iff_eq.2 h0]
  cases (n.mode == 0) <;> cases (n.uid == 0) <;> cases (n.gid == 0) <;> cases (n.time == 0) <;> cases ZbX n.data <;> rfl
 ·rw [if_neg h0, beq_false_of_ne h0]
  cases inR n.mode 0 511 <;> cases inR n.uid 0 99 <;> cases inR n.gid 0 99 <;> cases inR n.time 0 1000000 <;> try rfl
  simp only [Bool.not_true, Bool.true_and]
  have hle : decide ((n.es.length : Int) > 0) = !((n.es.length : Int) == 0) := by
   by_cases h : (n.es.length : Int) = 0
   ·rw [h]; rfl
   ·rw [beq_false_of_ne h, decide_eq_true (by omega)]; rfl
  rw [hle]
  by_cases h1 : n.kind = 1
  ·rw [h1]
   cases ((n.es.length : Int) == 0) <;> cases decide ((n.data.size : Int) ≤ 60) <;> rfl
  ·rw [if_neg h1]
   by_cases h2 : n.kind = 2
   ·rw [h2]
    show (if Zn8 0 l n.es = true then k (ZbX n.data) else k false) = k (ZbX n.data && Zn8 0 l n.es)
    cases Zn8 0 l n.es <;> cases ZbX n.data <;> rfl
   ·rw [if_neg h2, show (n.kind != 2) = true from bne_iff_ne.2 h2, beq_false_of_ne h1, beq_false_of_ne h2]
    by_cases h3 : n.kind = 3
    ·rw [if_pos h3, beq_iff_eq.2 h3]
     cases ((n.es.length : Int) == 0) <;> cases Zge n.data <;> rfl
    ·rw [if_neg h3, beq_false_of_ne h3]
     cases ((n.es.length : Int) == 0) <;> rfl
end Go.VM.VL
set_option linter.unusedSimpArgs false
set_option linter.unusedVariables false
namespace Go.VM.VL
open Go
variable {R : Type} (N : Nat)
theorem Zpu (g h : Nat → Nat) : ∀ n, Zbm (fun i => g i + h i) n = Zbm g n + Zbm h n
 | 0 => rfl
 | n + 1 => by
  have := Zpu g h n
  show Zbm (fun i => g i + h i) n + (g n + h n) = _
  rw [this]
  show _ = (Zbm g n + g n) + (Zbm h n + h n)
  omega
theorem Zgj {g h : Nat → Nat} : ∀ n, (∀ i, i < n → g i = h i) → Zbm g n = Zbm h n
 | 0, _ => rfl
 | n + 1, e => by
  show Zbm g n + g n = Zbm h n + h n
  rw [Zgj n fun i hi => e i (by omega), e n (by omega)]
theorem Zh3 : ∀ n, Zbm (fun _ => 0) n = 0
 | 0 => rfl
 | n + 1 => by show Zbm (fun _ => 0) n + 0 = 0; rw [Zh3 n]
theorem Zqt (g : Nat → Nat) {a : Nat} : ∀ n, a < n → Zbm (fun i => if i = a then g i else 0) n = g a
 | 0, h => by omega
 | n + 1, h => by
  show Zbm (fun i => if i = a then g i else 0) n + (if n = a then g n else 0) = _
  by_cases hn : n = a
  ·subst hn
   rw [if_pos rfl, Zgj (h := fun _ => 0) n fun i hi => if_neg (by omega), Zh3]; omega
  ·rw [if_neg hn, Zqt g n (by omega)]; rfl
structure Dist (len : Nat) (s : List Nat) : Prop where
 one : ∀ n, s.count n ≤ 1
 lt : ∀ n ∈ s, n < len
def Znw (g : Nat → Nat) : List Nat → Nat
 | [] => 0
 | a :: l => g a + Znw g l
theorem Zk4 (g : Nat → Nat) {len : Nat} : ∀ (s : List Nat), (∀ n ∈ s, n < len) → Znw g s = Zbm (fun n => s.count n * g n) len
 | [], _ => by simp [Znw, Zh3]
 | a :: s, h => by
  have ih := Zk4 g s fun n hn => h n (List.mem_cons_of_mem _ hn)
  have e : Zbm (fun n => (a :: s).count n * g n) len = Zbm (fun n => (s.count n * g n) + (if n = a then g n else 0)) len := Zgj _ fun n _ => by
   by_cases hn : n = a
   ·subst hn; rw [List.count_cons_self, if_pos rfl, Nat.add_mul, Nat.one_mul]
   ·rw [List.count_cons_of_ne (fun h => hn h.symm), if_neg hn, Nat.add_zero]
  show g a + Znw g s = _
  rw [e, Zpu, ← ih, Zqt g len (h a List.mem_cons_self)]; omega
theorem Dist.sum {len : Nat} {s : List Nat} (h : Dist len s) (g : Nat → Nat) : Znw g s ≤ Zbm g len := by
 rw [Zk4 g s h.lt]
 exact Zef (fun n => by
  have := h.one n
  calc s.count n * g n ≤ 1 * g n := Nat.mul_le_mul_right _ this
   _ = g n := Nat.one_mul _) _
theorem Zk1 : ∀ n, Zbm (fun _ => 1) n = n
 | 0 => rfl
 | n + 1 => by show Zbm (fun _ => 1) n + 1 = _; rw [Zk1 n]
theorem ZqE : ∀ s : List Nat, Znw (fun _ => 1) s = s.length
 | [] => rfl
 | a :: s => by show 1 + Znw _ s = _; rw [ZqE s, List.length_cons]; omega
theorem Dist.len {len : Nat} {s : List Nat} (h : Dist len s) : s.length ≤ len := by
 have := h.sum fun _ => 1
 rwa [Zk1, ZqE] at this
def Zb8 (s : List Nat) : List V := s.map fun (n : Nat) => V.int .i64 (n : Int)
theorem Zdz (s : List Nat) : (Zb8 s).length = s.length := by simp [Zb8]
theorem Zl5 {s : List Nat} {i : Nat} (h : i < s.length) : nth (Zb8 s) i = some (.int .i64 (at_ s i : Nat)) := by rw [Zb8, ZdX, Zfl h, ZbW h]; rfl
theorem ZBL {s : List Nat} (hs : s.length ≤ 1048576) (hN : 1048580 < N) (f : Fl) (x : Nat) (k : Bool → Option R) : Zkz N (Zb8 s) f (x : Int) k = k (s.contains x) := by
 rw [ZwE]
 unfold ZpX
 rw [Zdz]
 refine (Zcu (l := fun n i => Zf3 N (x : Int) (Zb8 s) _ (s.length : Int) _ _ n (i : Int)) (len := s.length) (p := fun i => !(at_ s i == x)) (k0 := k true) (k1 := k false) ?_ ?_ (show s.length < N by omega)).trans ?_
 ·intro n i hi _
  simp only [Zf3, Zdt, Zbc hi, Int.natCast_nonneg, if_true, Int.toNat_natCast, Zl5 hi, Zag, Ze2]
  rw [ZaD (i := i) (by omega), show (((at_ s i : Nat) : Int) == (x : Int)) = (at_ s i == x) by
   by_cases h : at_ s i = x
   ·rw [beq_iff_eq.2 h, beq_iff_eq.2 (by rw [h])]
   ·rw [beq_false_of_ne h, beq_false_of_ne (by omega)]]
  cases (at_ s i == x) <;> rfl
 ·intro _ n
  simp only [Zf3, Zdt, Int.lt_irrefl, decide_false]
 ·have e : (List.range' 0 s.length).all (fun i => !(at_ s i == x)) = !s.contains x := by
   rw [Bool.eq_iff_iff, Zbi, Bool.not_eq_true', ← Bool.not_eq_true, List.contains_iff_mem]
   constructor
   ·intro h hm
    obtain ⟨i, hi, he⟩ := List.getElem_of_mem hm
    have := h i hi
    rw [ZbW hi, he] at this
    simp at this
   ·intro h i hi
    rw [ZbW hi]
    cases hb : (s[i] == x) with
    | false => rfl
    | true => exact absurd (by rw [← beq_iff_eq.1 hb]; exact List.getElem_mem hi) h
  rw [e]
  cases s.contains x <;> rfl
def ZdB (s : List Nat) (x : Nat) : Nat := match (List.range' 0 s.length).findSome? (fun i => if at_ s i < x then none else some i) with | some i => i | none => s.length
def Zgm (s : List Nat) (x : Nat) : List Nat := s.take (ZdB s x) ++ [x] ++ s.drop (ZdB s x)
theorem ZEP (s : List Nat) (x : Nat) : ZdB s x ≤ s.length := by
 unfold ZdB
 cases h : (List.range' 0 s.length).findSome? (fun i => if at_ s i < x then none else some i) with
 | none => exact Nat.le_refl _
 | some i =>
  obtain ⟨j, hj, he⟩ := List.exists_of_findSome?_eq_some h
  rw [List.mem_range'] at hj
  obtain ⟨m, hm, rfl⟩ := hj
  split at he
  ·cases he
  ·obtain rfl := Option.some.inj he
   show 0 + 1 * m ≤ _
   omega
theorem ZkO (s : List Nat) (x n : Nat) : (Zgm s x).count n = s.count n + if x = n then 1 else 0 := by
 unfold Zgm
 have e : (s.take (ZdB s x)).count n + (s.drop (ZdB s x)).count n = s.count n := by rw [← List.count_append, List.take_append_drop]
 rw [List.count_append, List.count_append, List.count_singleton]
 by_cases h : x = n
 ·subst h; simp; omega
 ·rw [if_neg h, beq_false_of_ne h]; simp; omega
theorem Zg1 (s : List Nat) (x n : Nat) : n ∈ Zgm s x ↔ n ∈ s ∨ n = x := by
 have h1 := ZkO s x n
 rw [← List.count_pos_iff, ← List.count_pos_iff, h1]
 by_cases h : x = n
 ·subst h; simp
 ·rw [if_neg h]
  constructor
  ·intro h2; exact .inl (by omega)
  ·rintro (h2 | rfl)
   ·omega
   ·exact absurd rfl h
theorem Zfy (s : List Nat) (x : Nat) : (Zgm s x).length = s.length + 1 := by
 have := ZEP s x
 unfold Zgm
 simp only [List.length_append, List.length_take, List.length_drop, List.length_singleton]; omega
theorem Zkx (s : List Nat) : (Zb8 s).map V.noOwn = Zb8 s := by unfold Zb8; rw [List.map_map]; rfl
theorem Zk3 (s : List Nat) (j : Nat) : (Zb8 s).take j = Zb8 (s.take j) := by unfold Zb8; rw [List.map_take]
theorem Zk9 (s : List Nat) (j : Nat) : (Zb8 s).drop j = Zb8 (s.drop j) := by unfold Zb8; rw [List.map_drop]
theorem ZjU (s t : List Nat) : Zb8 s ++ Zb8 t = Zb8 (s ++ t) := by unfold Zb8; rw [List.map_append]
theorem ZvK (es : List V) : ZiP .sh es = true := rfl
theorem ZIo {s : List Nat} (hs : s.length ≤ 1048576) (hN : 1048580 < N) {x : Nat} (hx : x ∉ s) (k : List V → Option R) : ZD2 N (Zb8 s) .sh (x : Int) k = k (Zb8 (Zgm s x)) := by
 rw [ZuL]
 unfold ZpP
 have hx1 : ([.int .i64 (x : Int)] : List V) = Zb8 [x] := rfl
 simp only [hx1, Zdz, Fl.noOwn, ZvK, Zao]
 refine (Zb2 (β := Nat) (l := fun n i => Zgr N (Zb8 s) .sh (x : Int) _ n (i : Int)) (len := s.length) (q := fun i => if at_ s i < x then none else some i) (kb := fun i => k (Zb8 (s.take i ++ [x] ++ s.drop i))) (k1 := k (Zb8 (s.take s.length ++ [x] ++ s.drop s.length))) ?_ ?_ (show s.length < N by omega)).trans ?_
 ·intro n i hi _
  simp only [Zgr, Zdn, Zdz, Zbc hi, Int.natCast_nonneg, if_true, Int.toNat_natCast, Zl5 hi, Zag, Ze2]
  by_cases h : at_ s i < x
  ·rw [decide_eq_true (show ((at_ s i : Nat) : Int) < (x : Int) by omega), if_pos h, ZaD (i := i) (by omega)]
  ·rw [decide_eq_false (show ¬ ((at_ s i : Nat) : Int) < (x : Int) by omega), if_neg h]
   have hne : (((at_ s i : Nat) : Int) == (x : Int)) = false := beq_false_of_ne fun he => hx (by rw [← show at_ s i = x by omega]; exact Zek hi)
   simp only [hne]
   simp only [Zk3, Zk9, Zkx, List.drop_zero, List.nil_append, ZjU, Zdz]
   have hle : (i : Int) ≤ (s.length : Int) := by omega
   simp only [true_and, hle, if_true]
   repeat rw [if_pos (by (try simp only [List.length_append, List.length_take, List.length_drop, List.length_singleton]); omega)]
   rw [List.take_of_length_le (Nat.le_refl _)]
 ·intro _ n
  simp only [Zgr, Zdn, Zdz, Int.lt_irrefl, decide_false]
  simp only [Zk3, Zk9, Zkx, List.drop_zero, List.nil_append, ZjU, Zdz, Int.toNat_natCast]
  rw [if_pos (show (0 : Int) ≤ (s.length : Int) ∧ (s.length : Int) ≤ (s.length : Int) from ⟨by omega, by omega⟩), List.take_of_length_le (Nat.le_refl _)]
  repeat rw [if_pos (by (try simp only [List.length_append, List.length_take, List.length_drop, List.length_singleton]); omega)]
 ·unfold Zgm ZdB
  cases (List.range' 0 s.length).findSome? (fun i => if at_ s i < x then none else some i) <;> rfl
def ZeK (l : List Nod) : Prop := ∀ i, i < l.length → ∀ j, j < (at_ l i).es.length → 0 ≤ (at_ (at_ l i).es j).2 ∧ (at_ (at_ l i).es j).2 < l.length
def kid (l : List Nod) (x j : Nat) : Nat := (at_ (at_ l x).es j).2.toNat
theorem ZeK.kid {l : List Nod} (h : ZeK l) {x j : Nat} (hx : x < l.length) (hj : j < (at_ l x).es.length) : kid l x j < l.length ∧ (at_ (at_ l x).es j).2 = (kid l x j : Nat) := by
 have := h x hx j hj
 unfold VL.kid
 omega
def ZNe (f : Nat → List Nat → List Nat) (l : List Nod) (x : Nat) (s : List Nat) : Nat → List Nat
 | 0 => s
 | j + 1 => f (kid l x j) (ZNe f l x s j)
def ZkF (l : List Nod) : Nat → Nat → List Nat → List Nat
 | 0, _, s => s
 | M + 1, x, s => if s.contains x then s else ZNe (ZkF l M) l x (Zgm s x) (at_ l x).es.length
def Zqf (l : List Nod) (M x : Nat) (s : List Nat) (j : Nat) : List Nat := ZNe (ZkF l M) l x s j
theorem Dist.put {len : Nat} {s : List Nat} (h : Dist len s) {x : Nat} (hx : x < len) (hn : s.contains x = false) : Dist len (Zgm s x) := by
 have hnm : x ∉ s := fun hm => by rw [List.contains_iff_mem.2 hm] at hn; cases hn
 refine ⟨fun n => ?_, fun n hm => ?_⟩
 ·rw [ZkO]
  by_cases hxn : x = n
  ·subst hxn
   rw [if_pos rfl, List.count_eq_zero.2 hnm]; omega
  ·rw [if_neg hxn]; exact h.one n
 ·rcases (Zg1 s x n).1 hm with h2 | rfl
  ·exact h.lt n h2
  ·exact hx
structure MetOk (l : List Nod) (s r : List Nat) : Prop where
 dist : Dist l.length r
 sub : ∀ n ∈ s, n ∈ r
 len : s.length ≤ r.length
 closed : ∀ n ∈ r, n ∉ s → ∀ j, j < (at_ l n).es.length → kid l n j ∈ r
inductive Reach (l : List Nod) : Nat → Prop where
 | root : Reach l 0
 | step {x j : Nat} : Reach l x → x < l.length → j < (at_ l x).es.length → Reach l (kid l x j)
theorem MetOk.refl {l : List Nod} {s : List Nat} (h : Dist l.length s) : MetOk l s s := ⟨h, fun _ h => h, Nat.le_refl _, fun n h1 h2 => absurd h1 h2⟩
theorem MetOk.trans {l : List Nod} {s r t : List Nat} (h1 : MetOk l s r) (h2 : MetOk l r t) : MetOk l s t :=
 ⟨h2.dist, fun n h => h2.sub n (h1.sub n h), Nat.le_trans h1.len h2.len, fun n hn hs j hj => by
  by_cases hr : n ∈ r
  ·exact h2.sub _ (h1.closed n hr hs j hj)
  ·exact h2.closed n hn hr j hj⟩
theorem Zua {l : List Nod} (he : ZeK l) : ∀ (M x : Nat) (s : List Nat), x < l.length → Dist l.length s → l.length - s.length < M →
  MetOk l s (ZkF l M x s) ∧ x ∈ ZkF l M x s ∧ ((Reach l x → ∀ n ∈ s, Reach l n) → Reach l x → ∀ n ∈ ZkF l M x s, Reach l n)
 | 0, x, s, _, _, h => by omega
 | M + 1, x, s, hx, hs, hM => by
  rw [show ZkF l (M + 1) x s = if s.contains x then s else Zqf l M x (Zgm s x) (at_ l x).es.length from rfl]
  cases hc : s.contains x with
  | true => exact ⟨MetOk.refl hs, List.contains_iff_mem.1 hc, fun h1 h2 => h1 h2⟩
  | false =>
   have hd := hs.put hx hc
   have hl := hd.len
   rw [Zfy] at hl
   have hL : ∀ j, j ≤ (at_ l x).es.length → MetOk l (Zgm s x) (Zqf l M x (Zgm s x) j) ∧ (∀ i, i < j → kid l x i ∈ Zqf l M x (Zgm s x) j) ∧
     ((∀ n ∈ s, Reach l n) → Reach l x → ∀ n ∈ Zqf l M x (Zgm s x) j, Reach l n) := by
    intro j
    induction j with
    | zero =>
     intro _
     rw [show Zqf l M x (Zgm s x) 0 = Zgm s x from rfl]
     refine ⟨MetOk.refl hd, fun i hi => by omega, fun h1 h2 n hn => ?_⟩
     rcases (Zg1 s x n).1 hn with h3 | rfl
     ·exact h1 n h3
     ·exact h2
    | succ j ih =>
     intro hj
     obtain ⟨i1, i2, i3⟩ := ih (by omega)
     have hk := (he.kid hx (show j < (at_ l x).es.length by omega)).1
     have hlen := i1.len
     rw [Zfy] at hlen
     obtain ⟨m1, m2, m3⟩ := Zua he M (kid l x j) _ hk i1.dist (by omega)
     rw [show Zqf l M x (Zgm s x) (j + 1) = ZkF l M (kid l x j) (Zqf l M x (Zgm s x) j) from rfl]
     refine ⟨i1.trans m1, fun i hi => ?_, fun h1 h2 n hn => ?_⟩
     ·rcases Nat.lt_or_ge i j with h3 | h3
      ·exact m1.sub _ (i2 i h3)
      ·obtain rfl : i = j := by omega
       exact m2
     ·exact m3 (fun _ => i3 h1 h2) (Reach.step h2 hx (by omega)) n hn
   obtain ⟨h1, h2, h3⟩ := hL _ (Nat.le_refl _)
   refine ⟨⟨h1.dist, fun n hn => h1.sub n ((Zg1 s x n).2 (.inl hn)), by have := h1.len; rw [Zfy] at this; simp only [Bool.false_eq_true, if_false]; omega, fun n hn hns j hj => ?_⟩, h1.sub x ((Zg1 s x x).2 (.inr rfl)), fun h4 h5 => h3 (h4 h5) h5⟩
   by_cases hnx : n = x
   ·subst hnx; exact h2 j hj
   ·exact h1.closed n hn (fun hm => by
     rcases (Zg1 s x n).1 hm with h6 | h6
     ·exact hns h6
     ·exact hnx h6) j hj
theorem ZAG {l : List Nod} (hl : Small l) (he : ZeK l) (hN : 1048580 < N) (room : Int) : ∀ (M x : Nat) (s : List Nat) (f : Fl), x < l.length → Dist l.length s → l.length - s.length < M →
  ∀ (k : List V → Option R), ZgP N M R (nodsV l) f room (x : Int) (Zb8 s) .sh k = k (Zb8 (ZkF l M x s))
 | 0, x, s, _, _, _, h => by omega
 | M + 1, x, s, f, hx, hs, hM => by
  intro k
  have hll := hl.len
  have hsl := hs.len
  rw [ZwB]
  unfold ZuA
  rw [ZBL N (by omega) hN, show ZkF l (M + 1) x s = if s.contains x then s else Zqf l M x (Zgm s x) (at_ l x).es.length from rfl]
  cases hc : s.contains x with
  | true => rfl
  | false =>
   have hnm : x ∉ s := fun hm => by rw [List.contains_iff_mem.2 hm] at hc; cases hc
   have hd := hs.put hx hc
   have hl2 := hd.len
   rw [Zfy] at hl2
   simp only [Fl.noOwn, ZIo N (show s.length ≤ 1048576 by omega) hN hnm, Bool.false_eq_true, if_false]
   rw [if_pos (by omega), Int.toNat_natCast, Zbe hx]
   simp only [Zag, ZbD, Zbv]
   have hes := hl.es x hx
   have hmL : ∀ j, j ≤ (at_ l x).es.length → MetOk l (Zgm s x) (Zqf l M x (Zgm s x) j) := by
    intro j
    induction j with
    | zero => intro _; rw [show Zqf l M x (Zgm s x) 0 = Zgm s x from rfl]; exact MetOk.refl hd
    | succ j ih =>
     intro hj
     have i1 := ih (by omega)
     have hlen := i1.len
     rw [Zfy] at hlen
     rw [show Zqf l M x (Zgm s x) (j + 1) = ZkF l M (kid l x j) (Zqf l M x (Zgm s x) j) from rfl]
     exact i1.trans (Zua he M (kid l x j) _ (he.kid hx (show j < (at_ l x).es.length by omega)).1 i1.dist (by omega)).1
   have e0 : Zb8 (Zgm s x) = Zb8 (Zqf l M x (Zgm s x) 0) := rfl
   conv => lhs; rw [e0]
   refine ZbI (l := fun n i => Zgf N (ZgP N M) (ZbB (at_ l x).es) _ ((at_ l x).es.length : Int) (nodsV l) f room _ n (Zb8 (Zqf l M x (Zgm s x) i)) (i : Int)) (len := (at_ l x).es.length) (k1 := k (Zb8 (Zqf l M x (Zgm s x) (at_ l x).es.length))) ?_ ?_ (show (at_ l x).es.length < N by omega)
   ·intro n i hi
    have h1 := hmL i (by omega)
    have h2 := h1.len
    rw [Zfy] at h2
    obtain ⟨h3, h4⟩ := he.kid hx hi
    simp only [Zgf, Zdu, Zbc hi, Int.natCast_nonneg, if_true, Int.toNat_natCast, ZbP hi, Zag, Zcw, h4]
    rw [ZAG hl he hN room M (kid l x i) _ _ h3 h1.dist (by omega), ZaD (i := i) (by omega)]
    rw [show Zqf l M x (Zgm s x) (i + 1) = ZkF l M (kid l x i) (Zqf l M x (Zgm s x) i) from rfl]
   ·intro n
    simp only [Zgf, Zdu, Int.lt_irrefl, decide_false]
end Go.VM.VL
set_option linter.unusedSimpArgs false
set_option linter.unusedVariables false
namespace Go.VM.VL
open Go
variable {R : Type} (N : Nat)
theorem Zfp {lo : Int} (hlo : 0 ≤ lo) {l : List Nod} (h : (List.range' 0 l.length).all (fun i => ZjM lo l (at_ l i)) = true) : ZeK l := by
 intro i hi j hj
 have h1 := Zbi.1 h i hi
 unfold ZjM at h1
 split at h1
 ·simp only [ZxB, Bool.and_eq_true, beq_iff_eq] at h1; omega
 ·simp only [Bool.and_eq_true] at h1
  have h2 := h1.2
  unfold Zrn at h2
  split at h2
  ·simp only [Bool.and_eq_true, beq_iff_eq] at h2; omega
  ·split at h2
   ·rw [Bool.and_eq_true] at h2
    have h3 := Zbi.1 h2.2 j hj
    simp only [Zvk, Bool.and_eq_true, Zb9] at h3
    omega
   ·split at h2
    ·simp only [Bool.and_eq_true, beq_iff_eq] at h2; omega
    ·cases h2
def Zex (l : List Nod) (met : List Nat) (i : Nat) : Bool :=
 !(decide (i = 0) && decide ((Za2 l i l.length : Int) > 0)) && !(decide (i > 0) && ((at_ l i).kind == 2) && !((Za2 l i l.length : Int) == 1)) && !(!((at_ l i).kind == 0) && !met.contains i)
def ZDV (l : List Nod) (room : Int) : Bool :=
 inR (l.length : Int) 1 40 && inR room 0 1000 && !decide ((Zee l l.length : Int) > room) && ((at_ l 0).kind == 2) && (List.range' 0 l.length).all (fun i => ZjM 1 l (at_ l i))
  && (List.range' 0 l.length).all (Zex l (ZkF l N 0 []))
theorem Zol {a b : Nat} : ((a : Int) == (b : Int)) = decide (a = b) := by
 by_cases h : a = b
 ·subst h; simp
 ·rw [decide_eq_false h, beq_false_of_ne (by omega)]
theorem ZFU {l : List Nod} (hl : Small l) (hN : 1048580 < N) (f : Fl) (room : Int) (k : Bool → Option R) : ZEt N (nodsV l) f room k = k (ZDV N l room) := by
 rw [Zwk]
 unfold Zom ZDV
 have hll := hl.len
 simp only [Zw8, ZbA, ZAj N hl hN]
 cases h1 : inR (l.length : Int) 1 40 with
 | false => rfl
 | true =>
  obtain ⟨h2, h3⟩ := Zb9.1 h1
  cases inR room 0 1000 with
  | false => rfl
  | true =>
   cases decide ((Zee l l.length : Int) > room) with
   | true => rfl
   | false =>
    simp only [Bool.not_true, Bool.true_and, Bool.not_false]
    rw [Zbe (show 0 < l.length by omega)]
    simp only [Zag, ZbD, bne]
    cases h4 : ((at_ l 0).kind == 2) with
    | false => rfl
    | true =>
     simp only [Bool.not_true, Bool.true_and]
     refine (Zcu (l := fun n i => Zf5 N (nodsV l) _ (l.length : Int) (nodsV l) f room _ _ n (i : Int)) (len := l.length) (p := fun i => ZjM 1 l (at_ l i)) (k0 := k false) (k1 := k ((List.range' 0 l.length).all (Zex l (ZkF l N 0 [])))) ?_ ?_ (show l.length < N by omega)).trans ?_
     ·intro n i hi _
      simp only [Zf5, Zda, Zbc hi, Int.natCast_nonneg, if_true, Int.toNat_natCast, Zbe hi, Zag, ZbD, ZGt N hll (hl.nod hi) hN]
      rw [ZaD (i := i) (by omega)]
      cases ZjM 1 l (at_ l i) <;> rfl
     ·intro hall n
      have he : ZeK l := Zfp (lo := 1) (by omega) (Zbi.2 hall)
      have hd : Dist l.length [] := ⟨fun n => by simp, fun n h => by simp at h⟩
      have hmet := (Zua he N 0 [] (by omega) hd (by simp; omega)).1
      have hml := hmet.dist.len
      simp only [Zf5, Zda, Int.lt_irrefl, decide_false]
      refine (ZAG N hl he hN room N 0 [] _ (by omega) hd (by simp; omega) _).trans ?_
      refine (Zcu (l := fun n i => Zf0 N (Zb8 (ZkF l N 0 [])) (nodsV l) _ (l.length : Int) (nodsV l) f room _ _ n (i : Int)) (len := l.length) (p := Zex l (ZkF l N 0 [])) (k0 := k false) (k1 := k true) ?_ ?_ (show l.length < N by omega)).trans ?_
      ·intro n i hi _
       simp only [Zf0, Zdh, Zbc hi, Int.natCast_nonneg, if_true, Int.toNat_natCast, Zbe hi, Zag, ZbD, ZB0 N hl hN, ZBL N (show (ZkF l N 0 []).length ≤ 1048576 by omega) hN]
       rw [ZaD (i := i) (by omega), show ((i : Int) == 0) = decide (i = 0) from Zol (b := 0), show decide ((i : Int) > 0) = decide (i > 0) by by_cases h : i > 0 <;> simp [h]]
       simp only [bne]
       unfold Zex
       by_cases h0 : i = 0
       ·rw [decide_eq_true h0, decide_eq_false (p := i > 0) (by omega)]
        cases decide ((Za2 l i l.length : Int) > 0) <;> cases ((at_ l i).kind == 0) <;> cases (ZkF l N 0 []).contains i <;> rfl
       ·rw [decide_eq_false h0, decide_eq_true (p := i > 0) (by omega)]
        cases ((at_ l i).kind == 2) <;> cases ((Za2 l i l.length : Int) == 1) <;> cases ((at_ l i).kind == 0) <;> cases (ZkF l N 0 []).contains i <;> rfl
      ·intro _ n
       simp only [Zf0, Zdh, Int.lt_irrefl, decide_false]
      ·cases (List.range' 0 l.length).all (Zex l (ZkF l N 0 [])) <;> rfl
     ·cases (List.range' 0 l.length).all (fun i => ZjM 1 l (at_ l i)) <;> rfl
def vec (len : Nat) (g : Nat → Nat) : List V := (List.range' 0 len).map fun x => V.int .i64 (g x : Nat)
theorem Zrx (len : Nat) (g : Nat → Nat) : (vec len g).length = len := by simp [vec]
theorem ZAV {len : Nat} (g : Nat → Nat) {x : Nat} (h : x < len) : nth (vec len g) x = some (.int .i64 (g x : Nat)) := by
 rw [vec, ZdX, Zal, List.getElem?_range' h]; simp
theorem ZHa {len : Nat} (g : Nat → Nat) {x : Nat} (h : x < len) (v : Nat) : Za3 (vec len g) x (.int .i64 (v : Int)) = vec len (fun y => if y = x then v else g y) := by
 rw [Zby]
 apply List.ext_getElem?
 intro j
 rw [List.getElem?_set, Zrx]
 unfold vec
 by_cases hj : j < len
 ·rw [List.getElem?_map, List.getElem?_map, List.getElem?_range' hj]
  by_cases hx : x = j
  ·subst hx; simp [h]
  ·rw [if_neg hx]
   simp only [Option.map_some]
   rw [if_neg (by omega)]
 ·rw [if_neg (by omega), List.getElem?_eq_none (by simp; omega), List.getElem?_eq_none (by simp; omega)]
theorem ZiY (len : Nat) (g : Nat → Nat) (n : Nat) : (vec len g).map (trimV n) = vec len g := by unfold vec; rw [List.map_map]; rfl
theorem Zzs {len : Nat} {g h : Nat → Nat} (e : ∀ x, x < len → g x = h x) : vec len g = vec len h := by
 unfold vec
 apply List.map_congr_left
 intro x hx
 rw [List.mem_range'] at hx
 obtain ⟨j, hj, rfl⟩ := hx
 rw [e _ (by omega)]
theorem ZHt {l : List Nod} (hl : Small l) (he : ZeK l) (hN : 1048580 < N) {i : Nat} (hi : i < l.length) (e_2 : List V) (f_3 f_7 : Fl) (x_4 x_5 : Int) (e_10 : List V) (f_11 : Fl) (x_12 x_14 x_15 x_16 x_17 x_18 : Int) (w_19 : ByteArray) (e_20 : List V) (f_21 : Fl) (k0 : List V → Option R) :
  Ze5 N l.length e_2 f_3 x_4 x_5 (ZbB (at_ l i).es) f_7 ((at_ l i).es.length : Int) e_10 f_11 x_12 x_14 x_15 x_16 x_17 x_18 w_19 e_20 f_21 k0 N 0 (vec l.length fun x => Za2 l x i) = k0 (vec l.length fun x => Za2 l x (i + 1)) := by
 have hes := hl.es i hi
 have hll := hl.len
 refine ZbI (l := fun n j => Ze5 N l.length e_2 f_3 x_4 x_5 (ZbB (at_ l i).es) f_7 ((at_ l i).es.length : Int) e_10 f_11 x_12 x_14 x_15 x_16 x_17 x_18 w_19 e_20 f_21 k0 n (j : Int) (vec l.length fun x => Za2 l x i + ZcA (at_ l i).es x j)) (len := (at_ l i).es.length) (k1 := k0 (vec l.length fun x => Za2 l x (i + 1))) ?_ ?_ (show (at_ l i).es.length < N by omega)
 ·intro n j hj
  obtain ⟨h1, h2⟩ := he.kid hi hj
  have h3 := Zio hl (kid l i j) (Nat.le_of_lt hi)
  have h4 := ZjR (at_ l i).es (kid l i j) j
  simp only [Ze5, Zc3, Zbc hj, Int.natCast_nonneg, if_true, Int.toNat_natCast, ZbP hj, Zag, Zcw, h2, Nat.zero_add, ZAV _ h1]
  have hlt : ((kid l i j : Nat) : Int) < (l.length : Int) := by omega
  simp only [hlt, true_and, if_true]
  have hcell : ∀ (v : Int) (K : V → List V → Option R), Zbs ((V.int .i64 v).cells.drop 0) K = K (.int .i64 v) [] := fun v K => rfl
  have hput : ∀ (u v : Int), putCells (.int .i64 u) 0 [.int .i64 v] = some (.int .i64 v) := fun u v => rfl
  simp only [hcell, Ze2, hput]
  rw [ZaD (i := j) (by omega), ZaD (i := Za2 l (kid l i j) i + ZcA (at_ l i).es (kid l i j) j) (by omega)]
  rw [ZHa _ h1, ZiY]
  congr 1
  apply Zzs
  intro x hx
  have e : ZcA (at_ l i).es x (j + 1) = ZcA (at_ l i).es x j + ((at_ (at_ l i).es j).2 == (x : Int)).toNat := rfl
  by_cases hxk : x = kid l i j
  ·subst hxk
   rw [if_pos rfl, e, h2, beq_self_eq_true]; rfl
  ·rw [if_neg hxk, e, h2, beq_false_of_ne (by omega)]; rfl
 ·intro n
  simp only [Ze5, Zc3, Int.lt_irrefl, decide_false, ZiY]
  rfl
theorem ZHj {l : List Nod} (hl : Small l) (he : ZeK l) (hN : 1048580 < N) (f : Fl) (room : Int) (k : List V → Option R) : ZEJ N (nodsV l) f room k = k (vec l.length fun x => Za2 l x l.length) := by
 rw [Zu4]
 unfold ZqH
 have hll := hl.len
 rw [ZbA, if_pos ⟨by omega, rfl, by omega⟩, Int.toNat_natCast]
 have e0 : List.replicate l.length (V.int .i64 0) = vec l.length fun x => Za2 l x 0 := by
  unfold vec
  have : ∀ x : Nat, Za2 l x 0 = 0 := fun x => rfl
  simp only [this]
  rw [List.map_const']
  simp
 rw [e0]
 refine ZbI (l := fun n i => ZfS N l.length (nodsV l) _ (l.length : Int) (nodsV l) f room _ n (i : Int) (vec l.length fun x => Za2 l x i)) (len := l.length) (k1 := k (vec l.length fun x => Za2 l x l.length)) ?_ ?_ (show l.length < N by omega)
 ·intro n i hi
  simp only [ZfS, Zdg, Zbc hi, Int.natCast_nonneg, if_true, Int.toNat_natCast, Zbe hi, Zag, ZbD, Zbv]
  rw [ZHt N hl he hN hi, ZiY, ZaD (i := i) (by omega)]
 ·intro n
  simp only [ZfS, Zdg, Int.lt_irrefl, decide_false, ZiY, List.drop_zero]
  rw [List.take_of_length_le (by rw [Zrx]; exact Nat.le_refl _), Zcy fun v hv => by
   unfold vec at hv
   obtain ⟨x, _, rfl⟩ := List.mem_map.1 hv
   rfl]
  have hp : (vec l.length fun x => Za2 l x l.length).all V.plain = true := by
   rw [List.all_eq_true]; intro v hv
   unfold vec at hv
   obtain ⟨x, _, rfl⟩ := List.mem_map.1 hv
   rfl
  simp only [hp, Zrx, Nat.zero_add, Nat.le_refl, decide_true, Zao]
end Go.VM.VL
set_option linter.unusedSimpArgs false
set_option linter.unusedVariables false
namespace Go.VM.VL
open Go
variable {R : Type} (N : Nat)
def Zb1 (l : List Nod) (x : Nat) : Bool := (at_ l x).kind == 2
def Zb5 (l : List Nod) (x : Nat) : Nat → List Nat
 | 0 => []
 | j + 1 => Zb5 l x j ++ (if Zb1 l (kid l x j) then [kid l x j] else [])
def Zcm (l : List Nod) (x : Nat) : List Nat := Zb5 l x (at_ l x).es.length
def bfs (l : List Nod) : Nat → List Nat
 | 0 => [0]
 | x + 1 => if x < (bfs l x).length then bfs l x ++ Zcm l (at_ (bfs l x) x) else bfs l x
def ZeJ (l : List Nod) (i : Nat) : Bool :=
 if (at_ l i).kind = 0 then true
 else if i = 0 then inR (Za2 l i l.length : Int) 0 0
 else if (at_ l i).kind = 2 then inR (Za2 l i l.length : Int) 1 1
 else inR (Za2 l i l.length : Int) 1 1152921504606846976
theorem ZuQ {l : List Nod} (he : ZeK l) {x : Nat} (hx : x < l.length) (n : Nat) : ∀ j, j ≤ (at_ l x).es.length → (Zb5 l x j).count n ≤ (if Zb1 l n then ZcA (at_ l x).es n j else 0)
 | 0, _ => by simp [Zb5]
 | j + 1, hj => by
  have ih := ZuQ he hx n j (by omega)
  have hk := (he.kid hx (show j < (at_ l x).es.length by omega)).2
  have e : ZcA (at_ l x).es n (j + 1) = ZcA (at_ l x).es n j + ((at_ (at_ l x).es j).2 == (n : Int)).toNat := rfl
  rw [Zb5, List.count_append, e, hk]
  by_cases hn : kid l x j = n
  ·subst hn
   rw [beq_self_eq_true]
   cases hd : Zb1 l (kid l x j) with
   | true => rw [hd] at ih; simp at ih ⊢; omega
   | false => rw [hd] at ih; simp at ih ⊢; exact ih
  ·rw [beq_false_of_ne (by omega : ((kid l x j : Nat) : Int) ≠ (n : Int))]
   have : (if Zb1 l (kid l x j) = true then [kid l x j] else []).count n = 0 := by
    split
    ·rw [List.count_singleton, beq_false_of_ne hn]; rfl
    ·rfl
   rw [this]
   simpa using ih
theorem ZkN {l : List Nod} {x n : Nat} : ∀ {j}, n ∈ Zb5 l x j ↔ Zb1 l n = true ∧ ∃ i, i < j ∧ n = kid l x i
 | 0 => by simp [Zb5]
 | j + 1 => by
  rw [Zb5, List.mem_append, ZkN (j := j)]
  constructor
  ·rintro (⟨h1, i, hi, rfl⟩ | h)
   ·exact ⟨h1, i, by omega, rfl⟩
   ·split at h
    ·rename_i hd
     obtain rfl := List.mem_singleton.1 h
     exact ⟨hd, j, by omega, rfl⟩
    ·simp at h
  ·rintro ⟨h1, i, hi, rfl⟩
   rcases Nat.lt_or_ge i j with h2 | h2
   ·exact .inl ⟨h1, i, h2, rfl⟩
   ·obtain rfl : i = j := by omega
    rw [if_pos h1]
    exact .inr (List.mem_singleton.2 rfl)
theorem ZjG {l : List Nod} {n : Nat} (h : Zb1 l n = true) : n < l.length := by
 rcases Nat.lt_or_ge n l.length with h1 | h1
 ·exact h1
 ·unfold Zb1 at_ at h
  rw [List.getD_eq_getElem?_getD, List.getElem?_eq_none h1] at h
  exact absurd h (by decide)
structure Linked (l : List Nod) : Prop where
 ent : ZeK l
 pos : 0 < l.length
 root : Zb1 l 0 = true
 link : ∀ i, i < l.length → ZeJ l i = true
theorem Linked.le {l : List Nod} (h : Linked l) {n : Nat} (hn : Zb1 l n = true) : (if n = 0 then 1 else 0) + Za2 l n l.length ≤ 1 := by
 have h1 := h.link n (ZjG hn)
 unfold ZeJ at h1
 have h2 : (at_ l n).kind = 2 := beq_iff_eq.1 hn
 rw [h2] at h1
 by_cases h0 : n = 0
 ·subst h0
  rw [if_neg (by decide), if_pos rfl, Zb9] at h1
  rw [if_pos rfl]
  omega
 ·rw [if_neg (by decide), if_neg h0, if_pos rfl, Zb9] at h1
  rw [if_neg h0]; omega
theorem Zku (g : Nat → Nat) : ∀ s t : List Nat, Znw g (s ++ t) = Znw g s + Znw g t
 | [], t => by simp [Znw]
 | a :: s, t => by show g a + Znw g (s ++ t) = g a + Znw g s + Znw g t; rw [Zku g s t]; omega
theorem Dist.take {len : Nat} {s : List Nat} (h : Dist len s) (x : Nat) : Dist len (s.take x) := by
 refine ⟨fun n => ?_, fun n hn => h.lt n (List.mem_of_mem_take hn)⟩
 have e : (s.take x).count n + (s.drop x).count n = s.count n := by rw [← List.count_append, List.take_append_drop]
 have := h.one n
 omega
theorem ZCr {s : List Nat} {x : Nat} (h : x < s.length) : s.take (x + 1) = s.take x ++ [at_ s x] := by
 rw [List.take_succ_eq_append_getElem h, ZbW h]
structure BfsOk (l : List Nod) (x : Nat) : Prop where
 dist : Dist l.length (bfs l x)
 dir : ∀ n ∈ bfs l x, Zb1 l n = true ∧ Reach l n
 cnt : x ≤ (bfs l x).length → ∀ n, (bfs l x).count n = (if n = 0 then 1 else 0) + Znw (fun j => (Zcm l j).count n) ((bfs l x).take x)
 kids : ∀ i, i < x → i < (bfs l x).length → ∀ n ∈ Zcm l (at_ (bfs l x) i), n ∈ bfs l x
 root : 0 ∈ bfs l x
theorem ZpK {α : Type} [Inhabited α] (s t : List α) {i : Nat} (h : i < s.length) : at_ (s ++ t) i = at_ s i := by
 rw [ZbW h, ZbW (by rw [List.length_append]; omega), List.getElem_append_left h]
theorem ZeI {l : List Nod} (h : Linked l) : ∀ x, BfsOk l x
 | 0 => by
  refine ⟨⟨fun n => ?_, fun n hn => ?_⟩, fun n hn => ?_, fun _ n => ?_, fun i hi => absurd hi (by omega), List.mem_singleton.2 rfl⟩
  ·rw [bfs, List.count_singleton]; split <;> omega
  ·rw [bfs] at hn; obtain rfl := List.mem_singleton.1 hn; exact h.pos
  ·rw [bfs] at hn; obtain rfl := List.mem_singleton.1 hn; exact ⟨h.root, Reach.root⟩
  ·rw [bfs, List.count_singleton]
   simp only [List.take_zero, Znw]
   by_cases hn : n = 0
   ·subst hn; rfl
   ·rw [if_neg hn, beq_false_of_ne (Ne.symm hn)]; rfl
 | x + 1 => by
  have ih := ZeI h x
  by_cases hx : x < (bfs l x).length
  ·have e : bfs l (x + 1) = bfs l x ++ Zcm l (at_ (bfs l x) x) := by rw [bfs, if_pos hx]
   have hm : at_ (bfs l x) x ∈ bfs l x := Zek hx
   have ha := ih.dist.lt _ hm
   have hcnt : ∀ n, (bfs l (x + 1)).count n = (if n = 0 then 1 else 0) + Znw (fun j => (Zcm l j).count n) ((bfs l x).take (x + 1)) := fun n => by
    rw [e, List.count_append, ih.cnt (by omega) n, ZCr hx, Zku]
    simp only [Znw]; omega
   have hone : ∀ n, (bfs l (x + 1)).count n ≤ 1 := fun n => by
    rw [hcnt n]
    have h1 := (ih.dist.take (x + 1)).sum fun j => (Zcm l j).count n
    have h2 : Zbm (fun j => (Zcm l j).count n) l.length ≤ if Zb1 l n then Za2 l n l.length else 0 := by
     have : ∀ m, m ≤ l.length → Zbm (fun j => (Zcm l j).count n) m ≤ if Zb1 l n then Za2 l n m else 0 := by
      intro m
      induction m with
      | zero => intro _; exact Nat.zero_le _
      | succ m ihm =>
       intro hm2
       have i1 := ihm (by omega)
       have i2 := ZuQ h.ent (show m < l.length by omega) n _ (Nat.le_refl _)
       show Zbm _ m + (Zcm l m).count n ≤ _
       unfold Zcm
       unfold Zcm at i1
       split
       ·rename_i hd
        rw [if_pos hd] at i1 i2
        show _ ≤ Za2 l n m + ZcA (at_ l m).es n (at_ l m).es.length
        omega
       ·rename_i hd
        rw [if_neg hd] at i1 i2
        omega
     exact this _ (Nat.le_refl _)
    cases hd : Zb1 l n with
    | true =>
     have h3 := h.le hd
     rw [hd, if_pos rfl] at h2
     omega
    | false =>
     rw [hd] at h2
     simp only [Bool.false_eq_true, if_false] at h2
     split <;> omega
   have hnew : ∀ n ∈ bfs l (x + 1), Zb1 l n = true ∧ Reach l n := fun n hn => by
    rw [e, List.mem_append] at hn
    rcases hn with hn | hn
    ·exact ih.dir n hn
    ·obtain ⟨h1, i, hi, rfl⟩ := ZkN.1 hn
     exact ⟨h1, Reach.step (ih.dir _ hm).2 ha hi⟩
   refine ⟨⟨hone, fun n hn => ZjG (hnew n hn).1⟩, hnew, fun _ n => ?_, fun i hi hil n hn => ?_, ?_⟩
   ·rw [hcnt n, e, List.take_append_of_le_length (by omega)]
   ·rcases Nat.lt_or_ge i x with h1 | h1
    ·rw [e, ZpK _ _ (by omega)] at hn
     rw [e, List.mem_append]
     exact .inl (ih.kids i h1 (by omega) n hn)
    ·obtain rfl : i = x := by omega
     rw [e, ZpK _ _ hx] at hn
     rw [e, List.mem_append]
     exact .inr hn
   ·rw [e, List.mem_append]; exact .inl ih.root
  ·have e : bfs l (x + 1) = bfs l x := by rw [bfs, if_neg hx]
   exact ⟨by rw [e]; exact ih.dist, by rw [e]; exact ih.dir, fun h1 => by rw [e] at h1; omega, fun i hi hil n hn => by
    rw [e] at hil hn ⊢
    exact ih.kids i (by omega) hil n hn, by rw [e]; exact ih.root⟩
theorem ZCT {l : List Nod} (h : Linked l) : ∃ X, X ≤ l.length ∧ (bfs l X).length ≤ X ∧ (∀ x, x < X → x < (bfs l x).length) ∧ bfs l l.length = bfs l X := by
 have hlen : ∀ x, (bfs l x).length ≤ l.length := fun x => (ZeI h x).dist.len
 have : ∀ d x, x + d = l.length → (∀ y, y < x → y < (bfs l y).length) → ∃ X, X ≤ l.length ∧ (bfs l X).length ≤ X ∧ (∀ y, y < X → y < (bfs l y).length) := by
  intro d
  induction d with
  | zero => intro x hx hy; exact ⟨x, by omega, by have := hlen x; omega, hy⟩
  | succ d ih =>
   intro x hx hy
   by_cases hc : x < (bfs l x).length
   ·exact ih (x + 1) (by omega) fun y h2 => by
     rcases Nat.lt_or_ge y x with h3 | h3
     ·exact hy y h3
     ·obtain rfl : y = x := by omega
      exact hc
   ·exact ⟨x, by omega, by omega, hy⟩
 obtain ⟨X, h1, h2, h3⟩ := this l.length 0 (by omega) fun y hy => by omega
 refine ⟨X, h1, h2, h3, ?_⟩
 have : ∀ d, bfs l (X + d) = bfs l X := by
  intro d
  induction d with
  | zero => rfl
  | succ d ih =>
   rw [← Nat.add_assoc, bfs, ih, if_neg (by omega)]
 rw [← this (l.length - X), show X + (l.length - X) = l.length by omega]
theorem Zyh {l : List Nod} (h : Linked l) {a n : Nat} (ha : a ∈ bfs l l.length) (hn : n ∈ Zcm l a) : n ∈ bfs l l.length := by
 obtain ⟨X, h1, h2, h3, h4⟩ := ZCT h
 rw [h4] at ha ⊢
 obtain ⟨i, hi, rfl⟩ := List.getElem_of_mem ha
 rw [← ZbW hi] at hn
 exact (ZeI h X).kids i (by omega) hi n hn
end Go.VM.VL
set_option linter.unusedSimpArgs false
set_option linter.unusedVariables false
namespace Go.VM.VL
open Go
variable {R : Type} (N : Nat)
def ZhW (l : List Nod) (room : Int) : Bool :=
 inR (l.length : Int) 1 40 && inR room 0 1000 && ((at_ l 0).kind == 2) && (List.range' 0 l.length).all (fun i => ZjM 0 l (at_ l i)) && !decide ((Zee l l.length : Int) > room)
  && (List.range' 0 l.length).all (ZeJ l) && (List.range' 0 l.length).all (fun i => !Zb1 l i || (bfs l l.length).contains i)
def Zed (len : Nat) (s : List Nat) : List V := (List.range' 0 len).map fun x => V.bool (s.contains x)
theorem ZEE (len : Nat) (s : List Nat) : (Zed len s).length = len := by simp [Zed]
theorem ZlO {len : Nat} (s : List Nat) {x : Nat} (h : x < len) : nth (Zed len s) x = some (.bool (s.contains x)) := by
 rw [Zed, ZdX, Zal, List.getElem?_range' h]; simp
theorem ZFS {len : Nat} (s : List Nat) {x : Nat} (h : x < len) : Za3 (Zed len s) x (.bool true) = Zed len (s ++ [x]) := by
 rw [Zby]
 apply List.ext_getElem?
 intro j
 rw [List.getElem?_set, ZEE]
 unfold Zed
 by_cases hj : j < len
 ·rw [List.getElem?_map, List.getElem?_map, List.getElem?_range' hj]
  by_cases hx : x = j
  ·subst hx; simp [h]
  ·rw [if_neg hx]
   simp only [Option.map_some, Nat.zero_add, Nat.one_mul]
   congr 2
   have : ∀ t : List Nat, t.contains j = decide (j ∈ t) := fun t => by
    rw [Bool.eq_iff_iff, List.contains_iff_mem, decide_eq_true_eq]
   rw [this, this]
   by_cases hm : j ∈ s
   ·simp [hm]
   ·simp [hm]; omega
 ·rw [if_neg (by omega), List.getElem?_eq_none (by simp; omega), List.getElem?_eq_none (by simp; omega)]
theorem ZjW (len : Nat) (s : List Nat) (n : Nat) : (Zed len s).map (trimV n) = Zed len s := by unfold Zed; rw [List.map_map]; rfl
theorem Zl7 {l : List Nod} (h : Linked l) {x : Nat} (hx : x < (bfs l x).length) {n : Nat} (hn : n ∈ Zcm l (at_ (bfs l x) x)) : n ∉ bfs l x := by
 intro hm
 have h1 := (ZeI h (x + 1)).dist.one n
 rw [bfs, if_pos hx, List.count_append] at h1
 have h2 := List.count_pos_iff.2 hm
 have h3 := List.count_pos_iff.2 hn
 omega
theorem Zxz {l : List Nod} (hl : Small l) (h : Linked l) (hN : 1048580 < N) {x : Nat} (hx : x < (bfs l x).length) (z : Int) (f g : Fl) (room : Int) (k0 : List V → List V → Option R) :
  ZeV N l.length z (ZbB (at_ l (at_ (bfs l x) x)).es) f ((at_ l (at_ (bfs l x) x)).es.length : Int) (nodsV l) g room k0 N (Zb8 (bfs l x)) 0 (Zed l.length ((bfs l x).take (x + 1))) =
   k0 (Zb8 (bfs l (x + 1))) (Zed l.length ((bfs l x).take (x + 1))) := by
 have hll := hl.len
 have hb := ZeI h x
 have hb1 := (ZeI h (x + 1)).dist.len
 have e1 : bfs l (x + 1) = bfs l x ++ Zcm l (at_ (bfs l x) x) := by rw [bfs, if_pos hx]
 rw [e1] at hb1
 have ha := hb.dist.lt _ (Zek hx)
 have hes := hl.es _ ha
 have e0 : Zb8 (bfs l x) = Zb8 (bfs l x ++ Zb5 l (at_ (bfs l x) x) 0) := by rw [Zb5, List.append_nil]
 conv => lhs; rw [e0]
 refine ZbI (l := fun n j => ZeV N l.length z (ZbB (at_ l (at_ (bfs l x) x)).es) f ((at_ l (at_ (bfs l x) x)).es.length : Int) (nodsV l) g room k0 n (Zb8 (bfs l x ++ Zb5 l (at_ (bfs l x) x) j)) (j : Int) (Zed l.length ((bfs l x).take (x + 1)))) (len := (at_ l (at_ (bfs l x) x)).es.length) (k1 := k0 (Zb8 (bfs l (x + 1))) (Zed l.length ((bfs l x).take (x + 1)))) ?_ ?_ (show (at_ l (at_ (bfs l x) x)).es.length < N by omega)
 ·intro n j hj
  obtain ⟨h1, h2⟩ := h.ent.kid ha hj
  simp only [ZeV, Zc0, Zbc hj, Int.natCast_nonneg, if_true, Int.toNat_natCast, ZbP hj, Zag, Zcw, h2, Zbe h1, ZbD, ZjW, Nat.zero_add, ZlO _ h1]
  have hlt : ((kid l (at_ (bfs l x) x) j : Nat) : Int) < (l.length : Int) := by omega
  simp only [hlt, true_and, if_true]
  rw [ZaD (i := j) (by omega), Zb5, show ((at_ l (kid l (at_ (bfs l x) x) j)).kind == 2) = Zb1 l (kid l (at_ (bfs l x) x) j) from rfl]
  cases hd : Zb1 l (kid l (at_ (bfs l x) x) j) with
  | false => simp
  | true =>
   have hin : kid l (at_ (bfs l x) x) j ∈ Zcm l (at_ (bfs l x) x) := ZkN.2 ⟨hd, j, hj, rfl⟩
   have hns := Zl7 h hx hin
   have hc : ((bfs l x).take (x + 1)).contains (kid l (at_ (bfs l x) x) j) = false := by
    rw [Bool.eq_false_iff, ne_eq, List.contains_iff_mem]
    exact fun hm => hns (List.mem_of_mem_take hm)
   have hcell : ∀ (v : Bool) (K : V → List V → Option R), Zbs ((V.bool v).cells.drop 0) K = K (.bool v) [] := fun v K => rfl
   simp only [hcell, Zkj, hc, Bool.not_false, if_true]
   have hlen : (bfs l x ++ Zb5 l (at_ (bfs l x) x) j).length ≤ 1048576 := by
    have : (Zb5 l (at_ (bfs l x) x) j).length ≤ (at_ l (at_ (bfs l x) x)).es.length := by
     have : ∀ m, (Zb5 l (at_ (bfs l x) x) m).length ≤ m := by
      intro m
      induction m with
      | zero => exact Nat.le_refl _
      | succ m ih =>
       rw [Zb5, List.length_append]
       split <;> simp <;> omega
     have := this j
     omega
    rw [List.length_append] at hb1 ⊢
    have hbl := hb.dist.len
    have hpre : (Zb5 l (at_ (bfs l x) x) j).length ≤ (Zcm l (at_ (bfs l x) x)).length := by
     have : ∀ m d, (Zb5 l (at_ (bfs l x) x) m).length ≤ (Zb5 l (at_ (bfs l x) x) (m + d)).length := by
      intro m d
      induction d with
      | zero => exact Nat.le_refl _
      | succ d ih =>
       rw [← Nat.add_assoc, Zb5, List.length_append]; omega
     have := this j ((at_ l (at_ (bfs l x) x)).es.length - j)
     rwa [show j + ((at_ l (at_ (bfs l x) x)).es.length - j) = (at_ l (at_ (bfs l x) x)).es.length by omega] at this
    omega
   rw [Zdz, if_pos (by omega)]
   rw [show ([.int .i64 ((kid l (at_ (bfs l x) x) j : Nat) : Int)] : List V) = Zb8 [kid l (at_ (bfs l x) x) j] from rfl, ZjU, List.append_assoc]
 ·intro n
  simp only [ZeV, Zc0, Int.lt_irrefl, decide_false, ZjW]
  rw [e1]; rfl
theorem Zxo {l : List Nod} (hl : Small l) (h : Linked l) (hN : 1048580 < N) (f : Fl) (room : Int) (k0 : List V → Option R) :
  Ze0 N l.length (nodsV l) f room k0 N [.int .i64 0] 0 (List.replicate l.length (.bool false)) = k0 (Zed l.length (bfs l l.length)) := by
 have hll := hl.len
 obtain ⟨X, h1, h2, h3, h4⟩ := ZCT h
 have e0 : List.replicate l.length (V.bool false) = Zed l.length ((bfs l 0).take 0) := by
  unfold Zed
  simp [List.map_const']
 rw [e0]
 refine ZbI (l := fun n x => Ze0 N l.length (nodsV l) f room k0 n (Zb8 (bfs l x)) (x : Int) (Zed l.length ((bfs l x).take x))) (len := X) (k1 := k0 (Zed l.length (bfs l l.length))) ?_ ?_ (show X < N by omega)
 ·intro n x hx
  have hxl := h3 x hx
  have hm : at_ (bfs l x) x ∈ bfs l x := Zek hxl
  have ha := (ZeI h x).dist.lt _ hm
  have hput : ∀ b : Bool, putCells (.bool b) 0 [.bool true] = some (.bool true) := fun b => rfl
  have hlt : ((at_ (bfs l x) x : Nat) : Int) < (l.length : Int) := by omega
  simp only [Ze0, Zc7, Zdz, Zbc hxl, Int.natCast_nonneg, if_true, Int.toNat_natCast, Zl5 hxl, Zag, Ze2, Nat.zero_add, ZlO _ ha, hput, hlt, true_and, Zbe ha, ZbD, ZFS _ ha, Zbv]
  rw [← ZCr hxl, Zxz N hl h hN hxl, ZaD (i := x) (by omega)]
  congr 2
  rw [bfs, if_pos hxl, List.take_append_of_le_length (by omega)]
 ·intro n
  simp only [Ze0, Zc7, Zdz]
  rw [decide_eq_false (by omega), h4, List.take_of_length_le h2]
theorem Zo3 {l : List Nod} (h0 : 0 < l.length) (hk : ((at_ l 0).kind == 2) = true) (hn : (List.range' 0 l.length).all (fun i => ZjM 0 l (at_ l i)) = true) (hlk : (List.range' 0 l.length).all (ZeJ l) = true) : Linked l :=
 ⟨Zfp (Int.le_refl 0) hn, h0, hk, fun i hi => Zbi.1 hlk i hi⟩
theorem ZEy {l : List Nod} (hl : Small l) (hN : 1048580 < N) (f : Fl) (room : Int) (k : Bool → Option R) : ZFt N (nodsV l) f room k = k (ZhW l room) := by
 rw [Zuv]
 unfold ZoR ZhW
 rw [Zux]
 unfold Zqz
 have hll := hl.len
 simp only [ZyF, ZbA]
 cases h1 : inR (l.length : Int) 1 40 with
 | false => rfl
 | true =>
  obtain ⟨h2, h3⟩ := Zb9.1 h1
  cases inR room 0 1000 with
  | false => rfl
  | true =>
   simp only [Bool.not_true, Bool.true_and]
   rw [Zbe (show 0 < l.length by omega)]
   simp only [Zag, ZbD, bne]
   cases h4 : ((at_ l 0).kind == 2) with
   | false => rfl
   | true =>
    simp only [Bool.not_true, Bool.true_and]
    refine (Zcu (l := fun n i => Zf4 N (nodsV l) _ (l.length : Int) (nodsV l) f room _ _ n (i : Int)) (len := l.length) (p := fun i => ZjM 0 l (at_ l i)) (k0 := k false) (k1 := k (!decide ((Zee l l.length : Int) > room) && (List.range' 0 l.length).all (ZeJ l) && (List.range' 0 l.length).all (fun i => !Zb1 l i || (bfs l l.length).contains i))) ?_ ?_ (show l.length < N by omega)).trans ?_
    ·intro n i hi _
     simp only [Zf4, ZcV, Zbc hi, Int.natCast_nonneg, if_true, Int.toNat_natCast, Zbe hi, Zag, ZbD, ZDI N hll (hl.nod hi) hN]
     rw [ZaD (i := i) (by omega)]
     cases ZjM 0 l (at_ l i) <;> rfl
    ·intro hall n
     have he : ZeK l := Zfp (Int.le_refl 0) (Zbi.2 hall)
     simp only [Zf4, ZcV, Int.lt_irrefl, decide_false, ZBF N hl hN]
     cases decide ((Zee l l.length : Int) > room) with
     | true => rfl
     | false =>
      simp only [ZHj N hl he hN, Bool.not_false, Bool.true_and]
      refine (Zcu (l := fun n i => Zf2 N (vec l.length fun x => Za2 l x l.length) (nodsV l) _ (l.length : Int) (nodsV l) f room _ _ n (i : Int)) (len := l.length) (p := ZeJ l) (k0 := k false) (k1 := k ((List.range' 0 l.length).all (fun i => !Zb1 l i || (bfs l l.length).contains i))) ?_ ?_ (show l.length < N by omega)).trans ?_
      ·intro n i hi _
       simp only [Zf2, Zdw, Zbc hi, Int.natCast_nonneg, if_true, Int.toNat_natCast, Zbe hi, Zag, ZbD, ZAV _ hi, Ze2, ZyF, bne]
       rw [ZaD (i := i) (by omega), show ((i : Int) == 0) = decide (i = 0) from Zol (b := 0)]
       unfold ZeJ
       by_cases hk : (at_ l i).kind = 0
       ·rw [if_pos hk, hk]
        cases decide (i = 0) <;> rfl
       ·rw [if_neg hk, beq_false_of_ne hk]
        by_cases h0 : i = 0
        ·subst h0
         rw [if_pos rfl]
         show (match !inR (Za2 l 0 l.length : Int) 0 0 with | true => k false | false => _) = _
         cases inR (Za2 l 0 l.length : Int) 0 0 <;> rfl
        ·rw [if_neg h0, decide_eq_false h0]
         have hm : (if (1 : Int) < (i : Int) then (1 : Int) else (i : Int)) = 1 := by split <;> omega
         simp only [hm]
         by_cases hd : (at_ l i).kind = 2
         ·rw [if_pos hd, beq_iff_eq.2 hd]
          cases inR (Za2 l i l.length : Int) 1 1 <;> rfl
         ·rw [if_neg hd, beq_false_of_ne hd]
          cases inR (Za2 l i l.length : Int) 1 1152921504606846976 <;> rfl
      ·intro hlk n
       have hL : Linked l := Zo3 (by omega) h4 (Zbi.2 hall) (Zbi.2 hlk)
       simp only [Zf2, Zdw, Int.lt_irrefl, decide_false]
       rw [if_pos ⟨by omega, trivial, by omega⟩, Int.toNat_natCast, Zxo N hl hL hN]
       refine (Zcu (l := fun n i => Zgq N l.length (nodsV l) _ (l.length : Int) (nodsV l) f room _ _ n (i : Int) (Zed l.length (bfs l l.length))) (len := l.length) (p := fun i => !Zb1 l i || (bfs l l.length).contains i) (k0 := k false) (k1 := k true) ?_ ?_ (show l.length < N by omega)).trans ?_
       ·intro n i hi _
        have hcell : ∀ (v : Bool) (K : V → List V → Option R), Zbs ((V.bool v).cells.drop 0) K = K (.bool v) [] := fun v K => rfl
        have hlt : (i : Int) < (l.length : Int) := by omega
        simp only [Zgq, Zdr, Zbc hi, Int.natCast_nonneg, if_true, Int.toNat_natCast, Zbe hi, Zag, ZbD, Nat.zero_add, ZlO _ hi, hcell, Zkj, hlt, true_and, ZjW]
        rw [ZaD (i := i) (by omega), show ((at_ l i).kind == 2) = Zb1 l i from rfl]
        cases Zb1 l i <;> cases (bfs l l.length).contains i <;> rfl
       ·intro _ n
        simp only [Zgq, Zdr, Int.lt_irrefl, decide_false]
       ·cases (List.range' 0 l.length).all (fun i => !Zb1 l i || (bfs l l.length).contains i) <;> rfl
      ·cases (List.range' 0 l.length).all (ZeJ l) <;> rfl
    ·cases (List.range' 0 l.length).all (fun i => ZjM 0 l (at_ l i)) <;> rfl
end Go.VM.VL
set_option linter.unusedSimpArgs false
set_option linter.unusedVariables false
namespace Go.VM.VL
open Go
variable {R : Type} (N : Nat)
theorem ZCf {lo : Int} {l : List Nod} {n : Nod} (h : ZjM lo l n = true) (he : 0 < n.es.length) : n.kind = 2 := by
 unfold ZjM at h
 split at h
 ·simp only [ZxB, Bool.and_eq_true, beq_iff_eq] at h; omega
 ·simp only [Bool.and_eq_true] at h
  have h2 := h.2
  unfold Zrn at h2
  split at h2
  ·simp only [Bool.and_eq_true, beq_iff_eq] at h2; omega
  ·split at h2
   ·rename_i h3; exact h3
   ·split at h2
    ·simp only [Bool.and_eq_true, beq_iff_eq] at h2; omega
    ·cases h2
theorem ZE0 {l : List Nod} {es : List Ent} {j : Nat} (h : Zvk 1 l es j = true) : Zvk 0 l es j = true := by
 simp only [Zvk, Bool.and_eq_true, Zb9] at h ⊢
 exact ⟨h.1, ⟨by omega, h.2.1.2⟩, h.2.2⟩
theorem ZHD {l : List Nod} {es : List Ent} {j : Nat} (h : Zvk 0 l es j = true) (h0 : (at_ es j).2 ≠ 0) : Zvk 1 l es j = true := by
 simp only [Zvk, Bool.and_eq_true, Zb9] at h ⊢
 exact ⟨h.1, ⟨by omega, h.2.1.2⟩, h.2.2⟩
theorem ZwQ {a b : Int} {l : List Nod} {n : Nod} (h : ZjM a l n = true) (he : ∀ j, j < n.es.length → Zvk a l n.es j = true → Zvk b l n.es j = true) : ZjM b l n = true := by
 unfold ZjM at h ⊢
 split at h
 ·rename_i h0; rw [if_pos h0]; exact h
 ·rename_i h0
  rw [if_neg h0]
  rw [Bool.and_eq_true] at h ⊢
  refine ⟨h.1, ?_⟩
  have h2 := h.2
  unfold Zrn at h2 ⊢
  split at h2
  ·rename_i h3; rw [if_pos h3]; exact h2
  ·rename_i h3
   rw [if_neg h3]
   split at h2
   ·rename_i h4
    rw [if_pos h4]
    rw [Bool.and_eq_true] at h2 ⊢
    exact ⟨h2.1, Zbi.2 fun j hj => he j hj (Zbi.1 h2.2 j hj)⟩
   ·rename_i h4
    rw [if_neg h4]; exact h2
theorem Zfi (es : List Ent) (x : Int) : ∀ {n}, 0 < ZcA es x n ↔ ∃ j, j < n ∧ (at_ es j).2 = x
 | 0 => by simp [ZcA, Zbm]
 | n + 1 => by
  have ih := Zfi es x (n := n)
  have e : ZcA es x (n + 1) = ZcA es x n + ((at_ es n).2 == x).toNat := rfl
  rw [e]
  constructor
  ·intro h
   by_cases h1 : 0 < ZcA es x n
   ·obtain ⟨j, hj, h2⟩ := ih.1 h1
    exact ⟨j, by omega, h2⟩
   ·cases hb : ((at_ es n).2 == x) with
    | true => exact ⟨n, by omega, beq_iff_eq.1 hb⟩
    | false => rw [hb] at h; simp at h; omega
  ·rintro ⟨j, hj, h2⟩
   rcases Nat.lt_or_ge j n with h3 | h3
   ·have := ih.2 ⟨j, h3, h2⟩; omega
   ·obtain rfl : j = n := by omega
    rw [beq_iff_eq.2 h2]; simp
theorem Zgz (l : List Nod) (x : Int) : ∀ {n}, 0 < Za2 l x n ↔ ∃ i, i < n ∧ ∃ j, j < (at_ l i).es.length ∧ (at_ (at_ l i).es j).2 = x
 | 0 => by simp [Za2, Zbm]
 | n + 1 => by
  have ih := Zgz l x (n := n)
  have e : Za2 l x (n + 1) = Za2 l x n + ZcA (at_ l n).es x (at_ l n).es.length := rfl
  rw [e]
  constructor
  ·intro h
   by_cases h1 : 0 < Za2 l x n
   ·obtain ⟨i, hi, h2⟩ := ih.1 h1
    exact ⟨i, by omega, h2⟩
   ·exact ⟨n, by omega, (Zfi _ _).1 (by omega)⟩
  ·rintro ⟨i, hi, h2⟩
   rcases Nat.lt_or_ge i n with h3 | h3
   ·have := ih.2 ⟨i, h3, h2⟩; omega
   ·obtain rfl : i = n := by omega
    have := (Zfi (at_ l i).es x).2 h2; omega
theorem ZLv {l : List Nod} (he : ZeK l) (h0 : 0 < l.length) {i : Nat} (h : Reach l i) : i < l.length := by
 cases h with
 | root => exact h0
 | step _ hx hj => exact (he.kid hx hj).1
theorem Zzb {l : List Nod} (he : ZeK l) {i : Nat} (h : Reach l i) (h0 : i ≠ 0) : 0 < Za2 l i l.length := by
 cases h with
 | root => exact absurd rfl h0
 | @step x j _ hx hj => exact (Zgz l _).2 ⟨x, hx, j, hj, (he.kid hx hj).2⟩
theorem Zp1 {l : List Nod} (he : ZeK l) (h0 : 0 < l.length) (hN : l.length < N) {i : Nat} : Reach l i ↔ i ∈ ZkF l N 0 [] := by
 have hd : Dist l.length [] := ⟨fun n => by simp, fun n h => by simp at h⟩
 obtain ⟨h1, h2, h3⟩ := Zua he N 0 [] h0 hd (by simp; omega)
 constructor
 ·intro h
  induction h with
  | root => exact h2
  | step _ hx hj ih => exact h1.closed _ ih (by simp) _ hj
 ·intro h
  exact h3 (fun _ n hn => by simp at hn) Reach.root i h
theorem ZHB {l : List Nod} (hl : Small l) (hN : 1048580 < N) (room : Int) : ZDV N l room = ZhW l room := by
 have hll := hl.len
 rw [Bool.eq_iff_iff]
 unfold ZDV ZhW
 simp only [Bool.and_eq_true, Zbi]
 constructor
 ·rintro ⟨⟨⟨⟨⟨h1, h2⟩, h3⟩, h4⟩, h5⟩, h6⟩
  have hpos : 0 < l.length := by have := (Zb9.1 h1).1; omega
  have h5' : ∀ i, i < l.length → ZjM 0 l (at_ l i) = true := fun i hi => ZwQ (h5 i hi) fun j _ h => ZE0 h
  have he : ZeK l := Zfp (Int.le_refl 0) (Zbi.2 h5')
  have hmet := fun {i} => Zp1 N he hpos (by omega) (i := i)
  have h6' : ∀ i, i < l.length → (i = 0 → Za2 l i l.length = 0) ∧ (0 < i → Zb1 l i = true → Za2 l i l.length = 1) ∧ ((at_ l i).kind ≠ 0 → Reach l i) := by
   intro i hi
   have := h6 i hi
   unfold Zex at this
   simp only [Bool.and_eq_true, Bool.not_eq_true', Bool.and_eq_false_iff, decide_eq_false_iff_not, beq_eq_false_iff_ne, Bool.not_eq_false', beq_iff_eq] at this
   obtain ⟨⟨a1, a2⟩, a3⟩ := this
   refine ⟨fun h0 => ?_, fun h0 hd => ?_, fun hk => ?_⟩
   ·rcases a1 with a1 | a1
    ·exact absurd h0 a1
    ·omega
   ·rcases a2 with (a2 | a2) | a2
    ·exact absurd h0 a2
    ·exact absurd (beq_iff_eq.1 hd) a2
    ·omega
   ·rcases a3 with a3 | a3
    ·exact absurd a3 hk
    ·exact hmet.2 (List.contains_iff_mem.1 a3)
  have hlk : ∀ i, i < l.length → ZeJ l i = true := by
   intro i hi
   obtain ⟨a1, a2, a3⟩ := h6' i hi
   unfold ZeJ
   split
   ·rfl
   ·rename_i hk
    split
    ·rename_i h0; rw [Zb9]; have := a1 h0; omega
    ·rename_i h0
     split
     ·rename_i hd; rw [Zb9]; have := a2 (by omega) (beq_iff_eq.2 hd); omega
     ·rw [Zb9]
      have b1 := Zzb he (a3 hk) h0
      have b2 := Zio hl i (Nat.le_refl l.length)
      omega
  have hL : Linked l := ⟨he, hpos, h4, hlk⟩
  refine ⟨⟨⟨⟨⟨⟨h1, h2⟩, h4⟩, h5'⟩, h3⟩, hlk⟩, fun i hi => ?_⟩
  cases hd : Zb1 l i with
  | false => rfl
  | true =>
   have hk : (at_ l i).kind ≠ 0 := by
    have := beq_iff_eq.1 hd
    omega
   have hr := (h6' i hi).2.2 hk
   have : ∀ x, Reach l x → Zb1 l x = true → x ∈ bfs l l.length := by
    intro x hx
    induction hx with
    | root => intro _; exact (ZeI hL _).root
    | @step y j hy hyl hj ih =>
     intro hd2
     have hyd : Zb1 l y = true := beq_iff_eq.2 (ZCf (h5' y hyl) (by omega))
     exact Zyh hL (ih hyd) (ZkN.2 ⟨hd2, j, hj, rfl⟩)
   rw [Bool.not_true, Bool.false_or, List.contains_iff_mem]
   exact this i hr hd
 ·rintro ⟨⟨⟨⟨⟨⟨h1, h2⟩, h4⟩, h5⟩, h3⟩, hlk⟩, h7⟩
  have hpos : 0 < l.length := by have := (Zb9.1 h1).1; omega
  have he : ZeK l := Zfp (Int.le_refl 0) (Zbi.2 h5)
  have hL : Linked l := ⟨he, hpos, h4, hlk⟩
  have hmet := fun {i} => Zp1 N he hpos (by omega) (i := i)
  have hroot : (at_ l 0).kind = 2 := beq_iff_eq.1 h4
  have hl0 : Za2 l 0 l.length = 0 := by
   have := hL.le (n := 0) h4
   rw [if_pos rfl] at this
   have e : Za2 l ((0 : Nat) : Int) l.length = Za2 l 0 l.length := rfl
   omega
  have h5' : ∀ i, i < l.length → ZjM 1 l (at_ l i) = true := fun i hi => ZwQ (h5 i hi) fun j hj h => ZHD h fun h0 => by
   have := (Zgz l 0).2 ⟨i, hi, j, hj, h0⟩
   omega
  refine ⟨⟨⟨⟨⟨h1, h2⟩, h3⟩, h4⟩, h5'⟩, fun i hi => ?_⟩
  have hdir : Zb1 l i = true → Reach l i := fun hd => by
   have := h7 i hi
   rw [hd, Bool.not_true, Bool.false_or, List.contains_iff_mem] at this
   exact ((ZeI hL _).dir i this).2
  have hreach : (at_ l i).kind ≠ 0 → Reach l i := fun hk => by
   cases hd : Zb1 l i with
   | true => exact hdir hd
   | false =>
    have h0 : i ≠ 0 := fun h0 => by
     subst h0
     rw [show Zb1 l 0 = true from h4] at hd; cases hd
    have hlki := hlk i hi
    unfold ZeJ at hlki
    rw [if_neg hk, if_neg h0, if_neg (fun h2 => by rw [show Zb1 l i = true from beq_iff_eq.2 h2] at hd; cases hd), Zb9] at hlki
    obtain ⟨x, hx, j, hj, hxj⟩ := (Zgz l i).1 (show 0 < Za2 l i l.length by omega)
    have hxd : Zb1 l x = true := beq_iff_eq.2 (ZCf (h5 x hx) (by omega))
    have hxb := h7 x hx
    rw [hxd, Bool.not_true, Bool.false_or, List.contains_iff_mem] at hxb
    have hxr := ((ZeI hL _).dir x hxb).2
    have : i = kid l x j := by unfold kid; omega
    rw [this]
    exact Reach.step hxr hx hj
  have hlki := hlk i hi
  unfold Zex
  unfold ZeJ at hlki
  simp only [Bool.and_eq_true, Bool.not_eq_true', Bool.and_eq_false_iff, decide_eq_false_iff_not, beq_eq_false_iff_ne, Bool.not_eq_false', beq_iff_eq]
  refine ⟨⟨?_, ?_⟩, ?_⟩
  ·by_cases h0 : i = 0
   ·subst h0
    have e : Za2 l ((0 : Nat) : Int) l.length = Za2 l 0 l.length := rfl
    exact .inr (by omega)
   ·exact .inl h0
  ·by_cases h0 : i = 0
   ·exact .inl (.inl (by omega))
   ·by_cases hd : (at_ l i).kind = 2
    ·rw [if_neg (by omega), if_neg h0, if_pos hd, Zb9] at hlki
     exact .inr (by omega)
    ·exact .inl (.inr hd)
  ·by_cases hk : (at_ l i).kind = 0
   ·exact .inl hk
   ·exact .inr (List.contains_iff_mem.2 (hmet.1 (hreach hk)))
end Go.VM.VL
set_option linter.unusedSimpArgs false
set_option linter.unusedVariables false
namespace Go.VM.VL
open Go
variable {R : Type} (N : Nat)
def Zij (cu cg mode uid gid : Int) : Int :=
 if cu = uid then Int.fdiv mode (2 ^ (min (6 : Int).toNat 64))
 else if cg = gid then ZqL (Int.fdiv mode (2 ^ (min (3 : Int).toNat 64))) 7
 else ZqL mode 7
def ZDh (cu cg mode uid gid want : Int) : Bool := decide (cu = 0) || (ZGh want (Zij cu cg mode uid gid) == 0)
theorem Zyg {cu cg mode uid gid : Int} (h : 0 ≤ mode ∧ mode ≤ 511) : 0 ≤ Zij cu cg mode uid gid ∧ Zij cu cg mode uid gid < 8 := by
 obtain ⟨m, rfl⟩ := Int.eq_ofNat_of_zero_le h.1
 have hm : m ≤ 511 := by omega
 have f6 : Int.fdiv (m : Int) (2 ^ (min (6 : Int).toNat 64)) = ((m / 64 : Nat) : Int) := by
  show Int.fdiv (m : Int) ((64 : Nat) : Int) = _
  rw [Int.fdiv_eq_ediv_of_nonneg _ (by omega)]; rfl
 have f3 : Int.fdiv (m : Int) (2 ^ (min (3 : Int).toNat 64)) = ((m / 8 : Nat) : Int) := by
  show Int.fdiv (m : Int) ((8 : Nat) : Int) = _
  rw [Int.fdiv_eq_ediv_of_nonneg _ (by omega)]; rfl
 have b7 : ∀ n : Nat, n ≤ 511 → 0 ≤ ZqL (n : Int) 7 ∧ ZqL (n : Int) 7 < 8 := by
  intro n hn
  have := ZDi (a := n) (b := 7) (by omega)
  have h2 : (n &&& 7 % 18446744073709551616) ≤ 7 := Nat.and_le_right
  have e : ZqL (n : Int) ((7 : Nat) : Int) = ZqL (n : Int) 7 := rfl
  rw [e] at this
  rw [this]
  omega
 unfold Zij
 split
 ·rw [f6]; omega
 ·split
  ·rw [f3]; exact b7 _ (by omega)
  ·exact b7 m hm
theorem ZBB : ∀ b w : Fin 8, (ZGh (w.val : Int) (b.val : Int) == 0) = (ZqL (b.val : Int) (w.val : Int) == (w.val : Int)) := by decide +kernel
theorem ZHb {b w : Int} (hb : 0 ≤ b ∧ b < 8) (hw : 0 ≤ w ∧ w ≤ 7) : (ZGh w b == 0) = (ZqL b w == w) := by
 obtain ⟨m, rfl⟩ := Int.eq_ofNat_of_zero_le hb.1
 obtain ⟨n, rfl⟩ := Int.eq_ofNat_of_zero_le hw.1
 exact ZBB ⟨m, by omega⟩ ⟨n, by omega⟩
theorem Zxh (cu cg mode uid gid want : Int) (k : Bool → Option R) : ZGp N cu cg mode uid gid want k = k (ZDh cu cg mode uid gid want) := by
 rw [ZwR]
 unfold ZpV ZDh Zij
 by_cases h0 : cu = 0
 ·simp [h0]
 ·rw [beq_false_of_ne h0]
  by_cases h1 : cu = uid
  ·subst h1; simp [h0, ZGh, ZqL]
  ·rw [beq_false_of_ne h1]
   by_cases h2 : cg = gid
   ·subst h2; simp [h0, h1, ZGh, ZqL]
   ·rw [beq_false_of_ne h2]
    simp [h0, h1, h2, ZGh, ZqL]
theorem Zy7 {cu cg mode uid gid want : Int} (hm : 0 ≤ mode ∧ mode ≤ 511) (hw : 0 ≤ want ∧ want ≤ 7) (k : Bool → Option R) : ZDv N cu cg mode uid gid want k = k (ZDh cu cg mode uid gid want) := by
 rw [ZuW]
 unfold Zp0 ZDh
 rw [ZHb (Zyg hm) hw]
 unfold Zij
 by_cases h0 : cu = 0
 ·simp [h0]
 ·rw [beq_false_of_ne h0]
  by_cases h1 : cu = uid
  ·subst h1; simp [h0, ZGh, ZqL]
  ·rw [beq_false_of_ne h1]
   by_cases h2 : cg = gid
   ·subst h2; simp [h0, h1, ZGh, ZqL]
   ·rw [beq_false_of_ne h2]
    simp [h0, h1, h2, ZGh, ZqL]
structure Fine (l : List Nod) : Prop where
 small : Small l
 pos : 0 < l.length
 len : l.length ≤ 40
 ent : ZeK l
 mode : ∀ i, i < l.length → 0 ≤ (at_ l i).mode ∧ (at_ l i).mode ≤ 511
 link : ∀ i, i < l.length → (at_ l i).kind = 3 → Zge (at_ l i).data = true
theorem ZCV {l : List Nod} (hl : Small l) {room : Int} (h : ZhW l room = true) : Fine l := by
 unfold ZhW at h
 simp only [Bool.and_eq_true, Zbi] at h
 obtain ⟨⟨⟨⟨⟨⟨h1, h2⟩, h4⟩, h5⟩, h3⟩, hlk⟩, h7⟩ := h
 have h1' := Zb9.1 h1
 refine ⟨hl, by omega, by omega, Zfp (Int.le_refl 0) (Zbi.2 h5), fun i hi => ?_, fun i hi hk => ?_⟩
 ·have := h5 i hi
  unfold ZjM at this
  split at this
  ·simp only [ZxB, Bool.and_eq_true, beq_iff_eq] at this; omega
  ·simp only [Bool.and_eq_true, Zb9] at this; omega
 ·have := h5 i hi
  unfold ZjM Zrn at this
  rw [if_neg (by omega), if_neg (by omega), if_neg (by omega), if_pos hk] at this
  simp only [Bool.and_eq_true] at this
  exact this.2.1
def Zbf (es : List Ent) (w : ByteArray) : Int := match (List.range' 0 es.length).findSome? (fun j => if (at_ es j).1.toList == w.toList then some (at_ es j).2 else none) with | some x => x | none => -1
theorem Ziv {l : List Nod} (he : ZeK l) {a : Nat} (ha : a < l.length) (w : ByteArray) (h : ¬ Zbf (at_ l a).es w < 0) : (Zbf (at_ l a).es w).toNat < l.length ∧ Zbf (at_ l a).es w = ((Zbf (at_ l a).es w).toNat : Nat) := by
 unfold Zbf at h ⊢
 cases hq : (List.range' 0 (at_ l a).es.length).findSome? (fun j => if (at_ (at_ l a).es j).1.toList == w.toList then some (at_ (at_ l a).es j).2 else none) with
 | none => rw [hq] at h; exact absurd (by decide) h
 | some x =>
  obtain ⟨j, hj, hx⟩ := List.exists_of_findSome?_eq_some hq
  rw [List.mem_range'] at hj
  obtain ⟨m, hm, rfl⟩ := hj
  split at hx
  ·obtain rfl := Option.some.inj hx
   have := he a ha (0 + 1 * m) (by omega)
   simp only
   omega
  ·cases hx
theorem ZKs {es : List Ent} (hes : es.length ≤ 1048576) (hN : 1048580 < N) (f : Fl) (w : ByteArray) (k : Int → Option R) : ZFz N (ZbB es) f w k = k (Zbf es w) := by
 rw [Zvz]
 unfold Zqu
 rw [Zbv]
 refine (Zb2 (β := Int) (l := fun n i => Zgb N w (ZbB es) _ (es.length : Int) _ _ n (i : Int)) (len := es.length) (q := fun j => if (at_ es j).1.toList == w.toList then some (at_ es j).2 else none) (kb := k) (k1 := k (-1)) ?_ ?_ (show es.length < N by omega)).trans ?_
 ·intro n i hi _
  simp only [Zgb, Zc9, Zbc hi, Int.natCast_nonneg, if_true, Int.toNat_natCast, ZbP hi, Zag, Zcw]
  rw [ZaD (i := i) (by omega)]
  cases ((at_ es i).1.toList == w.toList) <;> rfl
 ·intro _ n
  simp only [Zgb, Zc9, Int.lt_irrefl, decide_false]
 ·unfold Zbf
  generalize (List.range' 0 es.length).findSome? _ = o
  cases o <;> rfl
theorem ZIj {l : List Nod} (hl : Small l) (hN : 1048580 < N) {a : Nat} (ha : a < l.length) (f : Fl) (room : Int) (w : ByteArray) (k : Int → Option R) : ZDy N (nodsV l) f room (a : Int) w k = k (Zbf (at_ l a).es w) := by
 rw [ZvL]
 unfold Zqe
 have hes := hl.es a ha
 rw [if_pos (by omega), Int.toNat_natCast, Zbe ha]
 simp only [Zag, ZbD, Zbv]
 refine (Zb2 (β := Int) (l := fun n i => Zgw N w (ZbB (at_ l a).es) _ ((at_ l a).es.length : Int) (nodsV l) f room _ _ n (i : Int)) (len := (at_ l a).es.length) (q := fun j => if (at_ (at_ l a).es j).1.toList == w.toList then some (at_ (at_ l a).es j).2 else none) (kb := k) (k1 := k (-1)) ?_ ?_ (show (at_ l a).es.length < N by omega)).trans ?_
 ·intro n i hi _
  simp only [Zgw, ZcX, Zbc hi, Int.natCast_nonneg, if_true, Int.toNat_natCast, ZbP hi, Zag, Zcw]
  rw [ZaD (i := i) (by omega)]
  cases ((at_ (at_ l a).es i).1.toList == w.toList) <;> rfl
 ·intro _ n
  simp only [Zgw, ZcX, Int.lt_irrefl, decide_false]
 ·unfold Zbf
  generalize (List.range' 0 (at_ l a).es.length).findSome? _ = o
  cases o <;> rfl
def ZdR (es : List Ent) (x : Int) : Option ByteArray := (List.range' 0 es.length).findSome? (fun j => if (at_ es j).2 == x then some (at_ es j).1 else none)
def Zcl (l : List Nod) (x : Int) (i : Nat) : Option (Nat × ByteArray) := match ZdR (at_ l i).es x with | some w => some (i, w) | none => none
def ZbS (l : List Nod) (x : Int) : Nat × ByteArray := match (List.range' 0 l.length).findSome? (Zcl l x) with | some p => p | none => (0, ByteArray.mk #[])
theorem ZCp {l : List Nod} (h0 : 0 < l.length) (x : Int) : (ZbS l x).1 < l.length := by
 unfold ZbS
 cases hq : (List.range' 0 l.length).findSome? (Zcl l x) with
 | none => exact h0
 | some p =>
  obtain ⟨j, hj, hx⟩ := List.exists_of_findSome?_eq_some hq
  rw [List.mem_range'] at hj
  obtain ⟨m, hm, rfl⟩ := hj
  unfold Zcl at hx
  split at hx
  ·obtain rfl := Option.some.inj hx
   show 0 + 1 * m < _
   omega
  ·cases hx
theorem ZGw (es : List Ent) (hes : es.length ≤ 1048576) (hN : 1048580 < N) (x x_2 : Int) (e_3 : List V) (f_4 : Fl) (x_5 x_6 : Int) (f_8 : Fl) (e_11 : List V) (f_12 : Fl) (x_13 x_14 x_15 x_16 x_17 x_18 : Int) (w_19 : ByteArray) (e_20 : List V) (f_21 : Fl) (a : Option R) (b : ByteArray → Option R) :
  ZeW N x x_2 e_3 f_4 x_5 x_6 (ZbB es) f_8 (es.length : Int) e_11 f_12 x_13 x_14 x_15 x_16 x_17 x_18 w_19 e_20 f_21 b (fun _ => a) N 0 = match ZdR es x with | some w => b w | none => a := by
 refine (Zb2 (β := ByteArray) (l := fun n i => ZeW N x x_2 e_3 f_4 x_5 x_6 (ZbB es) f_8 (es.length : Int) e_11 f_12 x_13 x_14 x_15 x_16 x_17 x_18 w_19 e_20 f_21 b (fun _ => a) n (i : Int)) (len := es.length) (q := fun j => if (at_ es j).2 == x then some (at_ es j).1 else none) (kb := b) (k1 := a) ?_ ?_ (show es.length < N by omega)).trans ?_
 ·intro n i hi _
  simp only [ZeW, ZcQ, Zbc hi, Int.natCast_nonneg, if_true, Int.toNat_natCast, ZbP hi, Zag, Zcw]
  rw [ZaD (i := i) (by omega)]
  cases ((at_ es i).2 == x) <;> rfl
 ·intro _ n
  simp only [ZeW, ZcQ, Int.lt_irrefl, decide_false]
 ·unfold ZdR
  generalize (List.range' 0 es.length).findSome? _ = o
  cases o <;> rfl
theorem ZwT (es : List Ent) (hes : es.length ≤ 1048576) (hN : 1048580 < N) (x x_2 : Int) (e_3 : List V) (f_4 : Fl) (x_5 x_6 : Int) (f_8 : Fl) (e_11 : List V) (f_12 : Fl) (x_13 x_14 x_15 x_16 x_17 x_18 : Int) (w_19 : ByteArray) (e_20 : List V) (f_21 : Fl) (a b : Option R) :
  Zfd N x x_2 e_3 f_4 x_5 x_6 (ZbB es) f_8 (es.length : Int) e_11 f_12 x_13 x_14 x_15 x_16 x_17 x_18 w_19 e_20 f_21 (fun _ => b) (fun _ => a) N 0 = match ZdR es x with | some _ => b | none => a := by
 refine (Zb2 (β := ByteArray) (l := fun n i => Zfd N x x_2 e_3 f_4 x_5 x_6 (ZbB es) f_8 (es.length : Int) e_11 f_12 x_13 x_14 x_15 x_16 x_17 x_18 w_19 e_20 f_21 (fun _ => b) (fun _ => a) n (i : Int)) (len := es.length) (q := fun j => if (at_ es j).2 == x then some (at_ es j).1 else none) (kb := fun _ => b) (k1 := a) ?_ ?_ (show es.length < N by omega)).trans ?_
 ·intro n i hi _
  simp only [Zfd, Zdc, Zbc hi, Int.natCast_nonneg, if_true, Int.toNat_natCast, ZbP hi, Zag, Zcw]
  rw [ZaD (i := i) (by omega)]
  cases ((at_ es i).2 == x) <;> rfl
 ·intro _ n
  simp only [Zfd, Zdc, Int.lt_irrefl, decide_false]
 ·unfold ZdR
  generalize (List.range' 0 es.length).findSome? _ = o
  cases o <;> rfl
theorem Zv3 {l : List Nod} (hl : Small l) (hN : 1048580 < N) (f : Fl) (room x : Int) (k : Int → ByteArray → Option R) : ZCS N (nodsV l) f room x k = k ((ZbS l x).1 : Nat) (ZbS l x).2 := by
 rw [Zva]
 unfold Zpb
 have hll := hl.len
 rw [ZbA]
 refine (Zb2 (β := Nat × ByteArray) (l := fun n i => Zf8 N x (nodsV l) _ (l.length : Int) (nodsV l) f room _ _ n (i : Int)) (len := l.length) (q := Zcl l x) (kb := fun p => k (p.1 : Nat) p.2) (k1 := k 0 (ByteArray.mk #[])) ?_ ?_ (show l.length < N by omega)).trans ?_
 ·intro n i hi _
  simp only [Zf8, Zdb, Zbc hi, Int.natCast_nonneg, if_true, Int.toNat_natCast, Zbe hi, Zag, ZbD, Zbv]
  rw [ZGw N _ (hl.es i hi) hN, ZaD (i := i) (by omega)]
  unfold Zcl
  cases ZdR (at_ l i).es x <;> rfl
 ·intro _ n
  simp only [Zf8, Zdb, Int.lt_irrefl, decide_false]
 ·unfold ZbS
  cases (List.range' 0 l.length).findSome? (Zcl l x) <;> rfl
theorem Zk5 {l : List Nod} (hl : Small l) (hN : 1048580 < N) (f : Fl) (room x : Int) (k : Int → Option R) : ZBG N (nodsV l) f room x k = k ((ZbS l x).1 : Nat) := by
 rw [Zt4]
 unfold ZnR
 have hll := hl.len
 rw [ZbA]
 refine (Zb2 (β := Nat × ByteArray) (l := fun n i => Zgg N x (nodsV l) _ (l.length : Int) (nodsV l) f room _ _ n (i : Int)) (len := l.length) (q := Zcl l x) (kb := fun p => k (p.1 : Nat)) (k1 := k 0) ?_ ?_ (show l.length < N by omega)).trans ?_
 ·intro n i hi _
  simp only [Zgg, Zdl, Zbc hi, Int.natCast_nonneg, if_true, Int.toNat_natCast, Zbe hi, Zag, ZbD, Zbv]
  rw [ZwT N _ (hl.es i hi) hN, ZaD (i := i) (by omega)]
  unfold Zcl
  cases ZdR (at_ l i).es x <;> rfl
 ·intro _ n
  simp only [Zgg, Zdl, Int.lt_irrefl, decide_false]
 ·unfold ZbS
  cases (List.range' 0 l.length).findSome? (Zcl l x) <;> rfl
end Go.VM.VL
set_option linter.unusedSimpArgs false
set_option linter.unusedVariables false
namespace Go.VM.VL
open Go
variable {R : Type} (N : Nat)
def ZfV (w : ByteArray) : Bool := ((at_ (bl w) 0).toNat : Int) == 47
def ZiS (fol : Bool) (l : List Nod) (cu cg : Int) (p : ByteArray) (rest : List ByteArray) (a h : Nat) : Int ⊕ (List ByteArray × Nat × Nat) :=
 if (at_ l a).kind ≠ 2 then .inl 3
 else if ZDh cu cg (at_ l a).mode (at_ l a).uid (at_ l a).gid 1 = false then .inl 4
 else if Zzn p then .inr (rest, a, h)
 else if ZiO p then .inr (rest, (ZbS l a).1, h)
 else if Zbf (at_ l a).es p < 0 then .inl 2
 else if (at_ l (Zbf (at_ l a).es p).toNat).kind ≠ 3 then .inr (rest, (Zbf (at_ l a).es p).toNat, h)
 else if rest.length = 0 ∧ fol = false then .inr (rest, (Zbf (at_ l a).es p).toNat, h)
 else if h = 8 then .inl 5
 else .inr (ZbM (at_ l (Zbf (at_ l a).es p).toNat).data ++ rest, if ZfV (at_ l (Zbf (at_ l a).es p).toNat).data then 0 else a, h + 1)
def ZcD (fol : Bool) (l : List Nod) (cu cg : Int) : Nat → List ByteArray → Nat → Nat → Option (Int ⊕ Nat)
 | 0, _, _, _ => none
 | n + 1, [], a, h => some (.inr a)
 | n + 1, p :: rest, a, h => match ZiS fol l cu cg p rest a h with
  | .inl c => some (.inl c)
  | .inr (L, a', h') => ZcD fol l cu cg n L a' h'
def far (L : List ByteArray) (h : Nat) : Nat := (8 - h) * 62 + L.length
theorem Zln {fol : Bool} {l : List Nod} (hf : Fine l) {cu cg : Int} {p : ByteArray} {rest : List ByteArray} {a h : Nat} (ha : a < l.length) (hh : h ≤ 8) :
  match ZiS fol l cu cg p rest a h with
  | .inl c => c ≠ 0
  | .inr (L, a', h') => a' < l.length ∧ h' ≤ 8 ∧ far L h' < far (p :: rest) h := by
 unfold ZiS
 by_cases h1 : (at_ l a).kind ≠ 2
 ·rw [if_pos h1]; exact (show (3 : Int) ≠ 0 by decide)
 rw [if_neg h1]
 by_cases h2 : ZDh cu cg (at_ l a).mode (at_ l a).uid (at_ l a).gid 1 = false
 ·rw [if_pos h2]; exact (show (4 : Int) ≠ 0 by decide)
 rw [if_neg h2]
 have hless : far rest h < far (p :: rest) h := by unfold far; rw [List.length_cons]; omega
 cases Zzn p with
 | true => rw [if_pos rfl]; exact ⟨ha, hh, hless⟩
 | false =>
 rw [if_neg (by simp)]
 cases ZiO p with
 | true => rw [if_pos rfl]; exact ⟨ZCp hf.pos _, hh, hless⟩
 | false =>
 rw [if_neg (by simp)]
 by_cases h3 : Zbf (at_ l a).es p < 0
 ·rw [if_pos h3]; exact (show (2 : Int) ≠ 0 by decide)
 rw [if_neg h3]
 obtain ⟨h4, h5⟩ := Ziv hf.ent ha p h3
 by_cases h6 : (at_ l (Zbf (at_ l a).es p).toNat).kind ≠ 3
 ·rw [if_pos h6]; exact ⟨h4, hh, hless⟩
 rw [if_neg h6]
 by_cases h7 : rest.length = 0 ∧ fol = false
 ·rw [if_pos h7]; exact ⟨h4, hh, hless⟩
 rw [if_neg h7]
 by_cases h8 : h = 8
 ·rw [if_pos h8]; exact (show (5 : Int) ≠ 0 by decide)
 rw [if_neg h8]
 have hp := hf.link _ h4 (by omega)
 have hs := ZcC hp
 have hl := ZdG (at_ l (Zbf (at_ l a).es p).toNat).data
 refine ⟨?_, by omega, ?_⟩
 ·split
  ·exact hf.pos
  ·exact ha
 ·unfold far
  rw [List.length_append, List.length_cons]
  obtain ⟨d, hd⟩ : ∃ d, 8 - h = d + 1 := ⟨8 - h - 1, by omega⟩
  rw [hd, show 8 - (h + 1) = d by omega, Nat.succ_mul]
  omega
theorem Zum {fol : Bool} {l : List Nod} (hf : Fine l) {cu cg : Int} : ∀ (n : Nat) (L : List ByteArray) (a h : Nat), a < l.length → h ≤ 8 → far L h < n → ∃ r, ZcD fol l cu cg n L a h = some r
 | 0, _, _, _, _, _, h => by omega
 | n + 1, [], a, h, _, _, _ => ⟨_, rfl⟩
 | n + 1, p :: rest, a, h, ha, hh, hn => by
  have := Zln hf ha hh (fol := fol) (cu := cu) (cg := cg) (p := p) (rest := rest)
  rw [ZcD]
  cases hs : ZiS fol l cu cg p rest a h with
  | inl c => exact ⟨_, rfl⟩
  | inr t =>
   obtain ⟨L, a', h'⟩ := t
   rw [hs] at this
   exact Zum hf n L a' h' this.1 this.2.1 (by have := this.2.2; omega)
theorem ZFo {g : Fl} (h : g.noOwn = .sh) : g.noOwn.noOwn = .sh ∧ (∀ es, ZiP g es = true) := by
 cases g with
 | own e => exact ⟨rfl, fun _ => rfl⟩
 | sh => exact ⟨rfl, fun _ => rfl⟩
 | bor => cases h
theorem Zk2 (s : List ByteArray) (j : Nat) : (ZaJ s).drop j = ZaJ (s.drop j) := by unfold ZaJ; rw [List.map_drop]
theorem Zqr (s t : List ByteArray) : ZaJ s ++ ZaJ t = ZaJ (s ++ t) := by unfold ZaJ; rw [List.map_append]
theorem Zgs (s : List ByteArray) : (ZaJ s).map V.noOwn = ZaJ s := by unfold ZaJ; rw [List.map_map]; rfl
theorem ZG8 {l : List Nod} (hf : Fine l) {a : Nat} (ha : a < l.length) (f : Fl) (room cu cg : Int) (k : Bool → Option R) :
  ZD3 N (nodsV l) f room cu cg (a : Int) 1 k = k (ZDh cu cg (at_ l a).mode (at_ l a).uid (at_ l a).gid 1) := by
 rw [ZwP]
 unfold ZqA
 rw [if_pos (by omega), Int.toNat_natCast, Zbe ha]
 simp only [Zag, ZbD, Zy7 N (hf.mode a ha) (show (0 : Int) ≤ 1 ∧ (1 : Int) ≤ 7 by omega)]
theorem ZHf {l : List Nod} {a : Nat} (ha : a < l.length) (f : Fl) (room cu cg : Int) (k : Bool → Option R) :
  ZGB N (nodsV l) f room cu cg (a : Int) 1 k = k (ZDh cu cg (at_ l a).mode (at_ l a).uid (at_ l a).gid 1) := by
 rw [Zue]
 unfold Zn0
 rw [if_pos (by omega), Int.toNat_natCast, Zbe ha]
 simp only [Zag, ZbD, Zxh]
theorem ZrM {l : List Nod} {a : Nat} (ha : a < l.length) (f : Fl) (room : Int) (k : Bool → Option R) : Zym N (nodsV l) f room (a : Int) k = k ((at_ l a).kind == 2) := by
 rw [Zwb]
 unfold ZnO
 rw [if_pos (by omega), Int.toNat_natCast, Zbe ha]
 simp only [Zag, ZbD]
theorem Ziy {w : ByteArray} (h : Zge w = true) (k : Int → Option R) : ZcE w 0 k = k ((at_ (bl w) 0).toNat : Int) := by
 have := ZcC h
 rw [show (0 : Int) = ((0 : Nat) : Int) from rfl, Zcx w (by rw [← ZbR]; omega)]
theorem Zy1 {l : List Nod} (hf : Fine l) (hN : 1048580 < N) (fol : Bool) {p : ByteArray} {rest : List ByteArray} {a h : Nat} (ha : a < l.length) (hh : h ≤ 8) (hr : rest.length ≤ 1000) (f : Fl) {g : Fl} (hg : g.noOwn = .sh) (room cu cg : Int)
  (K : Int → List V → Fl → Int → Int → Int → Int → List V → Fl → Int → Option R) (ke : Int → Option R) (hK : ∀ c, c ≠ 0 → ∀ a b c1 d e f g h i, K c a b c1 d e f g h i = ke c) :
  ∃ g' : Fl, g'.noOwn = .sh ∧ Zza N fol (nodsV l) f room cu cg (a : Int) (ZaJ (p :: rest)) g (h : Int) K = match ZiS fol l cu cg p rest a h with
   | .inl c => ke c
   | .inr (L, a', h') => K 0 (nodsV l) f room cu cg (a' : Nat) (ZaJ L) g' (h' : Nat) := by
 rw [ZvM]
 unfold Zof ZiS
 rw [if_pos (by omega), Int.toNat_natCast, Zbe ha]
 simp only [Zag, ZbD, ZG8 N hf ha]
 obtain ⟨hg1, hg2⟩ := ZFo hg
 have hsh : Fl.noOwn .sh = .sh := rfl
 have e1 : (((ZaJ (p :: rest)).take (ZaJ (p :: rest)).length).drop 1) = ZaJ rest := by rw [List.take_of_length_le (Nat.le_refl _), Zk2]; rfl
 rw [e1, show nth (ZaJ (p :: rest)) 0 = some (.str p) from rfl]
 simp only [Zag, ZdS]
 rw [show (p.toList == (ByteArray.mk #[46]).toList) = Zzn p from rfl, show (p.toList == (ByteArray.mk #[46, 46]).toList) = ZiO p from rfl]
 have e2 : (0 : Int) ≤ 1 ∧ (1 : Int) ≤ ((ZaJ (p :: rest)).length : Int) := by rw [Zba, List.length_cons]; omega
 simp only [if_pos e2]
 by_cases h1 : (at_ l a).kind = 2
 case neg =>
  refine ⟨.sh, rfl, ?_⟩
  rw [if_pos h1, bne_iff_ne.2 h1]
  exact hK 3 (by decide) _ _ _ _ _ _ _ _ _
 rw [if_neg (show ¬ (at_ l a).kind ≠ 2 from fun h => h h1), h1]
 cases h2 : ZDh cu cg (at_ l a).mode (at_ l a).uid (at_ l a).gid 1 with
 | false =>
  refine ⟨.sh, rfl, ?_⟩
  rw [if_pos (show false = false from rfl)]
  exact hK 4 (by decide) _ _ _ _ _ _ _ _ _
 | true =>
 rw [if_neg (show ¬ (true = false) by decide)]
 simp only [bne_self_eq_false, Bool.not_true]
 cases Zzn p with
 | true => exact ⟨g.noOwn.noOwn, by rw [hg1]; rfl, rfl⟩
 | false =>
 rw [if_neg (show ¬ (false = true) by decide)]
 simp only
 cases ZiO p with
 | true =>
  refine ⟨g.noOwn.noOwn, by rw [hg1]; rfl, ?_⟩
  rw [if_pos (show true = true from rfl)]
  simp only
  rw [Zk5 N hf.small hN]
 | false =>
 rw [if_neg (show ¬ (false = true) by decide)]
 simp only
 rw [ZKs N (hf.small.es a ha) hN]
 by_cases h3 : Zbf (at_ l a).es p < 0
 ·refine ⟨.sh, rfl, ?_⟩
  rw [if_pos h3, decide_eq_true h3]
  exact hK 2 (by decide) _ _ _ _ _ _ _ _ _
 rw [if_neg h3, decide_eq_false h3]
 obtain ⟨h4, h5⟩ := Ziv hf.ent ha p h3
 simp only
 rw [if_pos (by omega), Zbe h4]
 simp only [Zag, ZbD]
 by_cases h6 : (at_ l (Zbf (at_ l a).es p).toNat).kind = 3
 case neg =>
  refine ⟨g.noOwn.noOwn, by rw [hg1]; rfl, ?_⟩
  rw [if_pos h6, bne_iff_ne.2 h6]
  simp only
  rw [← h5]
 rw [if_neg (show ¬ (at_ l (Zbf (at_ l a).es p).toNat).kind ≠ 3 from fun h => h h6), h6]
 have hp := hf.link _ h4 h6
 have hs := ZcC hp
 have hpl := ZdG (at_ l (Zbf (at_ l a).es p).toNat).data
 simp only [bne_self_eq_false, Zba]
 have hlink : ∀ ks : Fl, (match ((h : Int) == 8) with
      | true => K 5 (nodsV l) f room cu cg (a : Int) (ZaJ rest) g.noOwn.noOwn (h : Int)
      | false => ZpS N (at_ l (Zbf (at_ l a).es p).toNat).data fun e24 => Zao (ZiP g.noOwn.noOwn.noOwn.noOwn (ZaJ rest)) ((if (e24.length + rest.length) * 16 ≤ 140737488355328 then ZcE (at_ l (Zbf (at_ l a).es p).toNat).data 0 fun n25 => (match (n25 == 47) with
         | true => K 0 (nodsV l) f room cu cg 0 (e24 ++ (ZaJ rest).map V.noOwn) ks (IntKind.i64.wrap ((h : Int) + 1))
         | false => K 0 (nodsV l) f room cu cg (a : Int) (e24 ++ (ZaJ rest).map V.noOwn) ks (IntKind.i64.wrap ((h : Int) + 1))) else none))) =
    match (if h = 8 then (Sum.inl 5 : Int ⊕ (List ByteArray × Nat × Nat)) else .inr (ZbM (at_ l (Zbf (at_ l a).es p).toNat).data ++ rest, if ZfV (at_ l (Zbf (at_ l a).es p).toNat).data then 0 else a, h + 1)) with
   | .inl c => ke c
   | .inr (L, a', h') => K 0 (nodsV l) f room cu cg (a' : Nat) (ZaJ L) ks (h' : Nat) := by
  intro ks
  by_cases h8 : h = 8
  ·subst h8
   exact hK 5 (by decide) _ _ _ _ _ _ _ _ _
  ·rw [if_neg h8, beq_false_of_ne (by omega : (h : Int) ≠ 8)]
   simp only [Zj6 N (show (at_ l (Zbf (at_ l a).es p).toNat).data.size ≤ 1048576 by omega) hN]
   rw [hg1, hsh, hsh, ZvK, if_pos (by rw [Zba]; omega), Ziy hp, Zgs, Zqr, ZaD (i := h) (by omega)]
   unfold ZfV
   cases (((at_ (bl (at_ l (Zbf (at_ l a).es p).toNat).data) 0).toNat : Int) == 47) <;> rfl
 by_cases h7 : rest.length = 0
 ·have hc0 : ((rest.length : Int) == 0) = true := by rw [h7]; rfl
  rw [hc0]
  cases fol with
  | false =>
   refine ⟨g.noOwn.noOwn, by rw [hg1]; rfl, ?_⟩
   rw [if_pos (show rest.length = 0 ∧ false = false from ⟨h7, rfl⟩)]
   simp only
   rw [← h5]
   rfl
  | true =>
   refine ⟨.own 9, rfl, ?_⟩
   rw [if_neg (show ¬ (rest.length = 0 ∧ true = false) from fun hc => by cases hc.2)]
   exact (hlink (.own 9))
 ·refine ⟨.own 9, rfl, ?_⟩
  rw [if_neg (show ¬ (rest.length = 0 ∧ fol = false) from fun hc => h7 hc.1), beq_false_of_ne (by omega : (rest.length : Int) ≠ 0)]
  exact (hlink (.own 9))
end Go.VM.VL
set_option linter.unusedSimpArgs false
set_option linter.unusedVariables false
namespace Go.VM.VL
open Go
variable {R : Type} (N : Nat)
def ZLz (ke : Int → Option R) (ka : Nat → Option R) : Option (Int ⊕ Nat) → Option R
 | none => none
 | some (.inl c) => ke c
 | some (.inr a) => ka a
theorem ZoW {l : List Nod} (hf : Fine l) (hN : 1048580 < N) (b1 b2 : Bool) (e_3 : List V) (f_4 : Fl) (x_5 x_6 x_7 : Int) (f : Fl) (room cu cg : Int) (ke : Int → Option R) (ka : Int → Option R) :
  ∀ (n : Nat) (L : List ByteArray) (a h : Nat) (g : Fl), g.noOwn = .sh → a < l.length → h ≤ 8 → far L h ≤ 800 →
   Zer N b1 b2 e_3 f_4 x_5 x_6 x_7 (fun x44 _ _ _ _ _ _ _ _ _ => ke x44) (fun _ _ _ _ _ x59 _ _ _ => ka x59) n (nodsV l) f room cu cg (a : Int) (ZaJ L) g (h : Int)
    = ZLz ke (fun a => ka (a : Nat)) (ZcD (b1 || b2) l cu cg n L a h)
 | 0, L, a, h, g, _, _, _, _ => rfl
 | n + 1, [], a, h, g, _, _, _, _ => rfl
 | n + 1, p :: rest, a, h, g, hg, ha, hh, hfar => by
  have hr : rest.length ≤ 1000 := by unfold far at hfar; rw [List.length_cons] at hfar; omega
  have hso := Zln hf ha hh (fol := b1 || b2) (cu := cu) (cg := cg) (p := p) (rest := rest)
  obtain ⟨g', hg', hstep⟩ := Zy1 (R := R) N hf hN (b1 || b2) (p := p) (rest := rest) ha hh hr f hg room cu cg
   (fun x24 e25 f26 x27 x28 x29 x30 e31 f32 x33 => (match (x24 != 0) with
    | true => ke x24
    | false => Zer N b1 b2 e_3 f_4 x_5 x_6 x_7 (fun x44 _ _ _ _ _ _ _ _ _ => ke x44) (fun _ _ _ _ _ x59 _ _ _ => ka x59) n e25 f26 x27 x28 x29 x30 e31 f32 x33)) ke
   (fun c hc a b c1 d e f g h i => by rw [bne_iff_ne.2 hc])
  have hlhs : Zer N b1 b2 e_3 f_4 x_5 x_6 x_7 (fun x44 _ _ _ _ _ _ _ _ _ => ke x44) (fun _ _ _ _ _ x59 _ _ _ => ka x59) (n + 1) (nodsV l) f room cu cg (a : Int) (ZaJ (p :: rest)) g (h : Int)
    = Zza N (b1 || b2) (nodsV l) f room cu cg (a : Int) (ZaJ (p :: rest)) g (h : Int) (fun x24 e25 f26 x27 x28 x29 x30 e31 f32 x33 => (match (x24 != 0) with
    | true => ke x24
    | false => Zer N b1 b2 e_3 f_4 x_5 x_6 x_7 (fun x44 _ _ _ _ _ _ _ _ _ => ke x44) (fun _ _ _ _ _ x59 _ _ _ => ka x59) n e25 f26 x27 x28 x29 x30 e31 f32 x33)) := by
   simp only [Zer, Zd1, Zba, List.length_cons]
   rw [decide_eq_true (by omega)]
   cases b1 <;> rfl
  rw [hlhs, hstep, ZcD]
  cases hs : ZiS (b1 || b2) l cu cg p rest a h with
  | inl c => rfl
  | inr t =>
   obtain ⟨L', a', h'⟩ := t
   rw [hs] at hso
   exact ZoW hf hN b1 b2 e_3 f_4 x_5 x_6 x_7 f room cu cg ke ka n L' a' h' g' hg' hso.1 hso.2.1 (by have := hso.2.2; omega)
theorem ZDL (hN : 1048580 < N) {a b : List ByteArray} (ha : a.length ≤ 1048577) (hb : b.length ≤ 1048577) (f : Fl) (k : List V → Option R) :
  Zxy N [.list 1 (ZaJ a) .sh, .list 1 (ZaJ b) .sh] f k = k (ZaJ (a ++ b)) := by
 rw [Zv1]
 unfold Zpo
 obtain ⟨M, hM⟩ : ∃ M, N = M + 3 := ⟨N - 3, by omega⟩
 have w1 : IntKind.i64.wrap (0 + (a.length : Int)) = a.length := ZbE (by omega) (by omega) |>.trans (by omega)
 have w2 : IntKind.i64.wrap ((a.length : Int) + (b.length : Int)) = ((a.length + b.length : Nat) : Int) := ZbE (by omega) (by omega)
 have hl1 : ∀ (k0 : Int → Option R), Ze8 N [.list 1 (ZaJ a) .sh, .list 1 (ZaJ b) .sh] f [.list 1 (ZaJ a) .sh, .list 1 (ZaJ b) .sh] f.noOwn 2 k0 N 0 0 = k0 ((a.length + b.length : Nat) : Int) := by
  intro k0
  refine ZbI (l := fun n i => Ze8 N [.list 1 (ZaJ a) .sh, .list 1 (ZaJ b) .sh] f [.list 1 (ZaJ a) .sh, .list 1 (ZaJ b) .sh] f.noOwn 2 k0 n ((if i = 0 then 0 else if i = 1 then a.length else a.length + b.length : Nat) : Int) (i : Int)) (len := 2) (k1 := k0 ((a.length + b.length : Nat) : Int)) ?_ ?_ (show 2 < N by omega)
  ·intro n i hi
   rcases (show i = 0 ∨ i = 1 by omega) with rfl | rfl
   ·show (match decide (IntKind.i64.wrap (0 + ((ZaJ a).length : Int)) < 0) with | true => none | false => Ze8 N _ f _ _ 2 k0 n (IntKind.i64.wrap (0 + ((ZaJ a).length : Int))) _) = _
    rw [Zba, w1, decide_eq_false (by omega)]
    rfl
   ·show (match decide (IntKind.i64.wrap ((a.length : Int) + ((ZaJ b).length : Int)) < 0) with | true => none | false => Ze8 N _ f _ _ 2 k0 n (IntKind.i64.wrap ((a.length : Int) + ((ZaJ b).length : Int))) _) = _
    rw [Zba, w2, decide_eq_false (by omega)]
    rfl
  ·intro n
   rfl
 have hl2 : ∀ (k0 : List V → Option R), Ze6 N [.list 1 (ZaJ a) .sh, .list 1 (ZaJ b) .sh] f.noOwn 2 k0 N [] 0 = k0 (ZaJ (a ++ b)) := by
  intro k0
  refine ZbI (l := fun n i => Ze6 N [.list 1 (ZaJ a) .sh, .list 1 (ZaJ b) .sh] f.noOwn 2 k0 n (if i = 0 then [] else if i = 1 then ZaJ a else ZaJ (a ++ b)) (i : Int)) (len := 2) (k1 := k0 (ZaJ (a ++ b))) ?_ ?_ (show 2 < N by omega)
  ·intro n i hi
   rcases (show i = 0 ∨ i = 1 by omega) with rfl | rfl
   ·show (if (0 + (ZaJ a).length) * 16 ≤ 140737488355328 then Ze6 N _ f.noOwn 2 k0 n ([] ++ (ZaJ a).map V.noOwn) _ else none) = _
    rw [Zba, if_pos (by omega), Zgs]
    rfl
   ·show (if ((ZaJ a).length + (ZaJ b).length) * 16 ≤ 140737488355328 then Ze6 N _ f.noOwn 2 k0 n (ZaJ a ++ (ZaJ b).map V.noOwn) _ else none) = _
    rw [Zba, Zba, if_pos (by omega), Zgs, Zqr]
    rfl
  ·intro n
   rfl
 refine (hl1 _).trans ?_
 rw [ZvY]
 unfold ZpM
 rw [if_pos ⟨by omega, by omega⟩]
 exact hl2 _
theorem Zq3 {w : ByteArray} (hw : 1 ≤ w.size ∧ w.size ≤ 60) (k : Bool → Option R) : ZEX N w (ByteArray.mk #[47]) k = ZcE w (IntKind.i64.wrap ((w.size : Int) - 1)) fun n => k (n == 47) := by
 rw [Zwl]
 unfold ZoY
 rw [ZwJ]
 unfold ZoE
 rw [show (((ByteArray.mk #[47]).size : Nat) : Int) = 1 from rfl, decide_eq_true (by omega), ZbE (by omega) (by omega), show (w.size : Int) - 1 = ((w.size - 1 : Nat) : Int) by omega]
 have hlt : w.size - 1 < (bl w).length := by rw [← ZbR]; omega
 rw [Zcx w hlt]
 simp only
 rw [if_pos ⟨by omega, by omega⟩, Int.toNat_natCast]
 congr 1
 rw [ByteArray.toList_eq, ByteArray.toList_eq]
 show (bl (ByteArray.extract w (w.size - 1) w.size) == [47]) = _
 rw [ZkZ, List.take_of_length_le (by rw [ZbR]; exact Nat.le_refl _), List.drop_eq_getElem_cons hlt, List.drop_eq_nil_of_le (by rw [← ZbR]; omega), ZbW hlt]
 rw [show (47 : Int) = ((47 : UInt8).toNat : Int) from rfl, ZCP]
 by_cases h : (bl w)[w.size - 1] = 47
 ·rw [h]; rfl
 ·rw [decide_eq_false h]
  apply beq_false_of_ne
  intro h2
  exact h (List.cons.inj h2).1
theorem ZpJ {l : List Nod} (hf : Fine l) (hN : 1048580 < N) (b1 b2 : Bool) (f : Fl) (room cu cg : Int) (ke : Int → Option R) (ka : Int → Option R) :
  ∀ (n : Nat) (L : List ByteArray) (a h : Nat), a < l.length → h ≤ 8 → far L h ≤ 800 →
   Zew N b1 b2 (nodsV l) f room cu cg (fun x54 _ => ke x54) ka n (ZaJ L) (a : Int) (h : Int)
    = ZLz ke (fun a => ka (a : Nat)) (ZcD (b1 || b2) l cu cg n L a h)
 | 0, L, a, h, _, _, _ => rfl
 | n + 1, [], a, h, _, _, _ => rfl
 | n + 1, p :: rest, a, h, ha, hh, hfar => by
  have hr : rest.length ≤ 1000 := by unfold far at hfar; rw [List.length_cons] at hfar; omega
  have hso := Zln hf ha hh (fol := b1 || b2) (cu := cu) (cg := cg) (p := p) (rest := rest)
  have ih := fun (L' : List ByteArray) (a' h' : Nat) (hs : ZiS (b1 || b2) l cu cg p rest a h = .inr (L', a', h')) => (by
   rw [hs] at hso
   exact ZpJ hf hN b1 b2 f room cu cg ke ka n L' a' h' hso.1 hso.2.1 (by have := hso.2.2; omega) :
    Zew N b1 b2 (nodsV l) f room cu cg (fun x54 _ => ke x54) ka n (ZaJ L') (a' : Nat) (h' : Nat) = ZLz ke (fun a => ka (a : Nat)) (ZcD (b1 || b2) l cu cg n L' a' h'))
  have hgoal : Zew N b1 b2 (nodsV l) f room cu cg (fun x54 _ => ke x54) ka (n + 1) (ZaJ (p :: rest)) (a : Int) (h : Int) = match ZiS (b1 || b2) l cu cg p rest a h with
    | .inl c => ke c
    | .inr (L', a', h') => Zew N b1 b2 (nodsV l) f room cu cg (fun x54 _ => ke x54) ka n (ZaJ L') (a' : Nat) (h' : Nat) := by
   simp only [Zew, Zd2]
   have e0 : decide (((ZaJ (p :: rest)).length : Int) > 0) = true := decide_eq_true (by rw [Zba, List.length_cons]; omega)
   have e1 : (((ZaJ (p :: rest)).take (ZaJ (p :: rest)).length).drop 1) = ZaJ rest := by rw [List.take_of_length_le (Nat.le_refl _), Zk2]; rfl
   have e2 : (0 : Int) ≤ 1 ∧ (1 : Int) ≤ ((ZaJ (p :: rest)).length : Int) := by rw [Zba, List.length_cons]; omega
   rw [e0, e1, show nth (ZaJ (p :: rest)) 0 = some (.str p) from rfl]
   simp only [Zag, ZdS, if_pos e2, ZrM N ha, ZHf N ha]
   rw [show (p.toList == (ByteArray.mk #[46]).toList) = Zzn p from rfl, show (p.toList == (ByteArray.mk #[46, 46]).toList) = ZiO p from rfl]
   unfold ZiS
   by_cases h1 : (at_ l a).kind = 2
   case neg => rw [if_pos h1, beq_false_of_ne h1]; rfl
   rw [if_neg (show ¬ (at_ l a).kind ≠ 2 from fun h => h h1), h1]
   cases h2 : ZDh cu cg (at_ l a).mode (at_ l a).uid (at_ l a).gid 1 with
   | false => rfl
   | true =>
   rw [if_neg (show ¬ (true = false) by decide)]
   simp only [beq_self_eq_true, Bool.not_true]
   cases Zzn p with
   | true => rfl
   | false =>
   rw [if_neg (show ¬ (false = true) by decide)]
   simp only
   cases ZiO p with
   | true =>
    rw [if_pos (show true = true from rfl)]
    simp only
    rw [Zv3 N hf.small hN]
   | false =>
   rw [if_neg (show ¬ (false = true) by decide)]
   simp only
   rw [ZIj N hf.small hN ha]
   by_cases h3 : Zbf (at_ l a).es p < 0
   ·rw [if_pos h3, decide_eq_true h3]
   rw [if_neg h3, decide_eq_false h3]
   obtain ⟨h4, h5⟩ := Ziv hf.ent ha p h3
   simp only
   rw [if_pos (by omega), Zbe h4]
   simp only [Zag, ZbD]
   by_cases h6 : (at_ l (Zbf (at_ l a).es p).toNat).kind = 3
   case neg =>
    rw [if_pos h6, beq_false_of_ne h6]
    simp only
    rw [← h5]
   rw [if_neg (show ¬ (at_ l (Zbf (at_ l a).es p).toNat).kind ≠ 3 from fun h => h h6), h6]
   have hp := hf.link _ h4 h6
   have hs := ZcC hp
   have hpl := ZdG (at_ l (Zbf (at_ l a).es p).toNat).data
   simp only [beq_self_eq_true, Zba, Zj7 N (show (at_ l (Zbf (at_ l a).es p).toNat).data.size ≤ 1048576 by omega) hN, ZDL N hN (show (ZbM (at_ l (Zbf (at_ l a).es p).toNat).data).length ≤ 1048577 by omega) (show rest.length ≤ 1048577 by omega), Ziy hp]
   rw [ZaD (i := h) (by omega), show (((at_ (bl (at_ l (Zbf (at_ l a).es p).toNat).data) 0).toNat : Int) == 47) = ZfV (at_ l (Zbf (at_ l a).es p).toNat).data from rfl]
   by_cases h8 : h = 8
   ·subst h8
    by_cases h7 : rest.length = 0
    ·rw [decide_eq_false (by omega)]
     cases b1 with
     | true => rw [if_neg (show ¬ (rest.length = 0 ∧ (true || b2) = false) from fun hc => by simp at hc)]; rfl
     | false =>
      cases b2 with
      | true => rw [if_neg (show ¬ (rest.length = 0 ∧ (false || true) = false) from fun hc => by simp at hc)]; rfl
      | false =>
       rw [if_pos (show rest.length = 0 ∧ (false || false) = false from ⟨h7, rfl⟩)]
       simp only
       rw [← h5]
    ·rw [decide_eq_true (by omega), if_neg (show ¬ (rest.length = 0 ∧ (b1 || b2) = false) from fun hc => h7 hc.1)]; rfl
   ·rw [beq_false_of_ne (by omega : (h : Int) ≠ 8), if_neg h8]
    by_cases h7 : rest.length = 0
    ·rw [decide_eq_false (by omega)]
     cases b1 with
     | true =>
      rw [if_neg (show ¬ (rest.length = 0 ∧ (true || b2) = false) from fun hc => by simp at hc)]
      cases ZfV (at_ l (Zbf (at_ l a).es p).toNat).data <;> rfl
     | false =>
      cases b2 with
      | true =>
       rw [if_neg (show ¬ (rest.length = 0 ∧ (false || true) = false) from fun hc => by simp at hc)]
       cases ZfV (at_ l (Zbf (at_ l a).es p).toNat).data <;> rfl
      | false =>
       rw [if_pos (show rest.length = 0 ∧ (false || false) = false from ⟨h7, rfl⟩)]
       simp only
       rw [← h5]
    ·rw [decide_eq_true (by omega), if_neg (show ¬ (rest.length = 0 ∧ (b1 || b2) = false) from fun hc => h7 hc.1)]
     cases ZfV (at_ l (Zbf (at_ l a).es p).toNat).data <;> rfl
  rw [hgoal, ZcD]
  cases hs : ZiS (b1 || b2) l cu cg p rest a h with
  | inl c => rfl
  | inr t =>
   obtain ⟨L', a', h'⟩ := t
   exact ih L' a' h' hs
end Go.VM.VL
set_option linter.unusedSimpArgs false
set_option linter.unusedVariables false
namespace Go.VM.VL
open Go
variable {R : Type} (N : Nat)
theorem Zj5 {w : ByteArray} (h : Zge w = true) : far (ZbM w) 0 ≤ 800 := by
 have h1 := ZcC h
 have h2 := ZdG w
 unfold far; omega
def ZkB (l : List Nod) (cu cg : Int) (w : ByteArray) (fol : Bool) : Option (Int × Int) :=
 if Zfb w then
  match ZcD (fol || (((at_ (bl w) (w.size - 1)).toNat : Int) == 47)) l cu cg N (ZbM w) 0 0 with
  | none => none
  | some (.inl c) => some (0, c)
  | some (.inr a) => some (if ((((at_ (bl w) (w.size - 1)).toNat : Int) == 47) && !((at_ l a).kind == 2)) then (0, 3) else ((a : Nat), 0))
 else some (0, 1)
theorem ZCi {l : List Nod} (hf : Fine l) (hN : 1048580 < N) (cu cg : Int) (w : ByteArray) (fol : Bool) : ∃ r, ZkB N l cu cg w fol = some r := by
 unfold ZkB
 by_cases h : Zfb w = true
 ·rw [if_pos h]
  unfold Zfb at h
  rw [Bool.and_eq_true] at h
  obtain ⟨r, hr⟩ := Zum hf (fol := fol || (((at_ (bl w) (w.size - 1)).toNat : Int) == 47)) (cu := cu) (cg := cg) N (ZbM w) 0 0 hf.pos (by omega) (by have := Zj5 h.1; omega)
  rw [hr]
  cases r <;> exact ⟨_, rfl⟩
 ·rw [if_neg h]; exact ⟨_, rfl⟩
theorem Zvr {fol : Bool} {l : List Nod} (hf : Fine l) {cu cg : Int} : ∀ (n : Nat) (L : List ByteArray) (a h b : Nat), a < l.length → h ≤ 8 → ZcD fol l cu cg n L a h = some (.inr b) → b < l.length
 | 0, _, _, _, _, _, _, h => by cases h
 | n + 1, [], a, h, b, ha, _, hr => by
  rw [ZcD] at hr
  obtain rfl := Sum.inr.inj (Option.some.inj hr)
  exact ha
 | n + 1, p :: rest, a, h, b, ha, hh, hr => by
  have := Zln hf ha hh (fol := fol) (cu := cu) (cg := cg) (p := p) (rest := rest)
  rw [ZcD] at hr
  cases hs : ZiS fol l cu cg p rest a h with
  | inl c => rw [hs] at hr; cases hr
  | inr t =>
   obtain ⟨L, a', h'⟩ := t
   rw [hs] at this hr
   exact Zvr hf n L a' h' b this.1 this.2.1 hr
theorem ZFR {l : List Nod} (hf : Fine l) (hN : 1048580 < N) {w : ByteArray} (hw : w.size ≤ 1048576) (f : Fl) (room cu cg : Int) (fol : Bool) {r : Int × Int} (hr : ZkB N l cu cg w fol = some r) (k : Int → Int → Option R) :
  ZGH N (nodsV l) f room cu cg w fol k = k r.1 r.2 := by
 rw [ZvX]
 unfold ZoT
 rw [ZBr N hw hN]
 unfold ZkB at hr
 by_cases h : Zfb w = true
 ·rw [if_pos h] at hr
  rw [h]
  unfold Zfb at h
  rw [Bool.and_eq_true] at h
  have hs := ZcC h.1
  simp only [Bool.not_true]
  rw [ZbE (by omega) (by omega), show (w.size : Int) - 1 = ((w.size - 1 : Nat) : Int) by omega, Zcx w (by rw [← ZbR]; omega)]
  simp only [Zj6 N hw hN]
  rw [show (0 : Int) = ((0 : Nat) : Int) from rfl]
  refine (ZoW N hf hN fol (((at_ (bl w) (w.size - 1)).toNat : Int) == 47) (nodsV l) f room cu cg _ room cu cg (fun x44 => k 0 x44) _ N (ZbM w) 0 0 .sh rfl hf.pos (by omega) (Zj5 h.1)).trans ?_
  cases hq : ZcD (fol || (((at_ (bl w) (w.size - 1)).toNat : Int) == 47)) l cu cg N (ZbM w) 0 0 with
  | none => rw [hq] at hr; cases hr
  | some q =>
   rw [hq] at hr
   cases q with
   | inl c => obtain rfl := Option.some.inj hr; rfl
   | inr a =>
    obtain rfl := Option.some.inj hr
    have ha := Zvr hf N _ _ _ _ hf.pos (by omega) hq
    show (match (((at_ (bl w) (w.size - 1)).toNat : Int) == 47) with
     | true => (if 0 ≤ ((a : Nat) : Int) then Zbq (nth (nodsV l) ((a : Nat) : Int).toNat) fun e63 => Zaw e63 fun n64 n65 n66 n67 n68 w69 e70 f71 => (match (n64 != 2) with
      | true => k 0 3
      | false => k ((a : Nat) : Int) 0) else none)
     | false => k ((a : Nat) : Int) 0) = _
    rw [if_pos (by omega), Int.toNat_natCast, Zbe ha]
    simp only [Zag, ZbD, bne]
    cases (((at_ (bl w) (w.size - 1)).toNat : Int) == 47) <;> cases ((at_ l a).kind == 2) <;> rfl
 ·rw [if_neg h] at hr
  obtain rfl := Option.some.inj hr
  rw [Bool.eq_false_iff.2 h]
  rfl
theorem ZI0 {l : List Nod} (hf : Fine l) (hN : 1048580 < N) {w : ByteArray} (hw : w.size ≤ 1048576) (f : Fl) (room cu cg : Int) (fol : Bool) {r : Int × Int} (hr : ZkB N l cu cg w fol = some r) (k : Int → Int → Option R) :
  ZFJ N (nodsV l) f room cu cg w fol k = k r.1 r.2 := by
 rw [Zv7]
 unfold Zqv
 rw [ZB3 N hw hN]
 unfold ZkB at hr
 by_cases h : Zfb w = true
 ·rw [if_pos h] at hr
  rw [h]
  unfold Zfb at h
  rw [Bool.and_eq_true] at h
  have hs := ZcC h.1
  simp only [Bool.not_true]
  rw [Zq3 N hs, ZbE (by omega) (by omega), show (w.size : Int) - 1 = ((w.size - 1 : Nat) : Int) by omega, Zcx w (by rw [← ZbR]; omega)]
  simp only [Zj7 N hw hN]
  rw [show (0 : Int) = ((0 : Nat) : Int) from rfl]
  refine (ZpJ N hf hN fol (((at_ (bl w) (w.size - 1)).toNat : Int) == 47) f room cu cg (fun x54 => k 0 x54) _ N (ZbM w) 0 0 hf.pos (by omega) (Zj5 h.1)).trans ?_
  cases hq : ZcD (fol || (((at_ (bl w) (w.size - 1)).toNat : Int) == 47)) l cu cg N (ZbM w) 0 0 with
  | none => rw [hq] at hr; cases hr
  | some q =>
   rw [hq] at hr
   cases q with
   | inl c => obtain rfl := Option.some.inj hr; rfl
   | inr a =>
    obtain rfl := Option.some.inj hr
    have ha := Zvr hf N _ _ _ _ hf.pos (by omega) hq
    simp only [ZLz, ZrM N ha]
    cases (((at_ (bl w) (w.size - 1)).toNat : Int) == 47) <;> cases ((at_ l a).kind == 2) <;> rfl
 ·rw [if_neg h] at hr
  obtain rfl := Option.some.inj hr
  rw [Bool.eq_false_iff.2 h]
  rfl
def ZfI (l : List Nod) (room cu cg : Int) : Bool := ZhW l room && (inR cu 0 99 && inR cg 0 99)
theorem ZAd {l : List Nod} (hl : Small l) (hN : 1048580 < N) (f : Fl) (room cu cg : Int) (k : Bool → Option R) : ZFW N (nodsV l) f room cu cg k = k (ZfI l room cu cg) := by
 rw [ZvH]
 unfold ZpG ZfI
 rw [ZFU N hl hN, ZHB N hl hN, Zwf]
 unfold Zn2
 simp only [Zw8]
 cases ZhW l room <;> cases inR cu 0 99 <;> rfl
theorem ZBD {l : List Nod} (hl : Small l) (hN : 1048580 < N) (f : Fl) (room cu cg : Int) (k : Bool → Option R) : ZEV N (nodsV l) f room cu cg k = k (ZfI l room cu cg) := by
 rw [Zt7]
 unfold Zoa ZfI
 rw [ZEy N hl hN, Zvg]
 unfold Zp6
 rw [Zm2]
 unfold ZkV
 simp only [ZyF]
 cases ZhW l room <;> cases inR cu 0 99 <;> rfl
theorem ZIL {l : List Nod} (hl : Small l) {room cu cg : Int} (h : ZfI l room cu cg = true) : Fine l := by
 unfold ZfI at h
 rw [Bool.and_eq_true] at h
 exact ZCV hl h.1
end Go.VM.VL
set_option linter.unusedSimpArgs false
set_option linter.unusedVariables false
namespace Go.VM.VL
open Go
variable {R : Type} (N : Nat)
theorem Znn {l : List Nod} (hf : Fine l) {cu cg : Int} {w : ByteArray} {fol : Bool} {r : Int × Int} (hr : ZkB N l cu cg w fol = some r) : r.1 = ((r.1.toNat : Nat) : Int) ∧ r.1.toNat < l.length := by
 have hp := hf.pos
 unfold ZkB at hr
 split at hr
 ·split at hr
  ·cases hr
  ·obtain rfl := Option.some.inj hr
   exact ⟨rfl, hp⟩
  ·rename_i a hq
   obtain rfl := Option.some.inj hr
   have ha := Zvr hf N _ _ _ _ hf.pos (by omega) hq
   split
   ·exact ⟨rfl, hp⟩
   ·exact ⟨rfl, ha⟩
 ·obtain rfl := Option.some.inj hr
  exact ⟨rfl, hp⟩
end Go.VM.VL
set_option linter.unusedSimpArgs false
set_option linter.unusedVariables false
namespace Go.VM.VL
open Go
variable {R : Type} (N : Nat)
theorem Zkq (g : Nat → Nat) {i j n : Nat} (h : i < j) (hj : j < n) : g i + g j ≤ Zbm g n := by
 have h1 := ZjD g h
 have h2 := ZeA g (a := j + 1) (b := n) hj
 have e : Zbm g (j + 1) = Zbm g j + g j := rfl
 omega
theorem ZkG {l : List Nod} (h : Linked l) {a j : Nat} (ha : a < l.length) (hj : j < (at_ l a).es.length) (hd : Zb1 l (kid l a j) = true) : (ZbS l (kid l a j : Nat)).1 = a := by
 have he := (h.ent.kid ha hj).2
 generalize hn : kid l a j = n at *
 have hle := h.le hd
 have hq : ∀ i w, Zcl l (n : Nat) i = some w → w.1 = i ∧ (∃ m, m < (at_ l i).es.length ∧ (at_ (at_ l i).es m).2 = (n : Nat)) := by
  intro i w hw
  unfold Zcl at hw
  split at hw
  ·rename_i q hq
   obtain rfl := Option.some.inj hw
   refine ⟨rfl, ?_⟩
   unfold ZdR at hq
   obtain ⟨m, hm, hx⟩ := List.exists_of_findSome?_eq_some hq
   rw [List.mem_range'] at hm
   obtain ⟨m', hm', rfl⟩ := hm
   split at hx
   ·rename_i hb
    exact ⟨0 + 1 * m', by omega, beq_iff_eq.1 hb⟩
   ·cases hx
  ·cases hw
 unfold ZbS
 cases hf : (List.range' 0 l.length).findSome? (Zcl l (n : Nat)) with
 | none =>
  have := ZcI.1 hf a ha
  unfold Zcl at this
  cases hb : ZdR (at_ l a).es (n : Nat) with
  | some w => rw [hb] at this; cases this
  | none =>
   have := ZcI.1 hb j hj
   rw [beq_iff_eq.2 he, if_pos rfl] at this
   cases this
 | some p =>
  obtain ⟨i, hi, hx⟩ := List.exists_of_findSome?_eq_some hf
  rw [List.mem_range'] at hi
  obtain ⟨i', hi', rfl⟩ := hi
  obtain ⟨h1, h2⟩ := hq _ _ hx
  show p.1 = a
  rw [h1]
  rw [Nat.zero_add, Nat.one_mul] at *
  have c1 := (Zfi (at_ l i').es (n : Nat)).2 h2
  have c2 := (Zfi (at_ l a).es (n : Nat)).2 ⟨j, hj, he⟩
  rcases Nat.lt_trichotomy i' a with h3 | h3 | h3
  ·have := Zkq (fun i => ZcA (at_ l i).es (n : Nat) (at_ l i).es.length) h3 ha
   unfold Za2 at hle
   split at hle <;> omega
  ·exact h3
  ·have := Zkq (fun i => ZcA (at_ l i).es (n : Nat) (at_ l i).es.length) h3 hi'
   unfold Za2 at hle
   split at hle <;> omega
def upN (l : List Nod) : Nat → Nat → Prop
 | 0, n => n = 0
 | d + 1, n => n = 0 ∨ upN l d (ZbS l (n : Nat)).1
theorem ZvD {l : List Nod} (h : Linked l) : ∀ x, ∀ n ∈ bfs l x, upN l x n
 | 0, n, hn => by rw [bfs] at hn; exact List.mem_singleton.1 hn
 | x + 1, n, hn => by
  rw [bfs] at hn
  have mono : ∀ d m, upN l d m → upN l (d + 1) m := by
   intro d
   induction d with
   | zero => intro m hm; exact .inl hm
   | succ d ih =>
    rintro m (hm | hm)
    ·exact .inl hm
    ·exact .inr (ih _ hm)
  split at hn
  ·rename_i hx
   rcases List.mem_append.1 hn with h1 | h1
   ·exact mono _ _ (ZvD h x n h1)
   ·have hm : at_ (bfs l x) x ∈ bfs l x := Zek hx
    have ha := (ZeI h x).dist.lt _ hm
    obtain ⟨hd, j, hj, rfl⟩ := ZkN.1 h1
    refine .inr ?_
    rw [ZkG h ha hj hd]
    exact ZvD h x _ hm
  ·exact mono _ _ (ZvD h x n hn)
structure Fine2 (l : List Nod) : Prop extends Fine l where
 tied : Linked l
 up : ∀ n, Zb1 l n = true → upN l l.length n
theorem Zwt {l : List Nod} (hl : Small l) {room : Int} (h : ZhW l room = true) : Fine2 l := by
 have hf := ZCV hl h
 unfold ZhW at h
 simp only [Bool.and_eq_true, Zbi] at h
 obtain ⟨⟨⟨⟨⟨⟨h1, h2⟩, h4⟩, h5⟩, h3⟩, hlk⟩, h7⟩ := h
 have hL := Zo3 hf.pos h4 (Zbi.2 h5) (Zbi.2 hlk)
 refine ⟨hf, hL, fun n hn => ZvD hL _ n ?_⟩
 have := h7 n (ZjG hn)
 rw [hn] at this
 exact List.contains_iff_mem.1 (by simpa using this)
theorem ZrN {l : List Nod} (hl : Small l) {room cu cg : Int} (h : ZfI l room cu cg = true) : Fine2 l := by
 unfold ZfI at h
 rw [Bool.and_eq_true] at h
 exact Zwt hl h.1
def upF (l : List Nod) (t : Int) : Nat → Int → Option Int
 | 0, _ => none
 | n + 1, x => if x != t then if x != 0 then upF l t n ((ZbS l x).1 : Nat) else some x else some x
theorem ZEU {l : List Nod} (t : Int) : ∀ (d n x : Nat), upN l d x → d < n → ∃ y, upF l t n (x : Int) = some y
 | d, 0, _, _, h => by omega
 | d, n + 1, x, hu, h => by
  rw [upF]
  cases h1 : ((x : Int) != t) with
  | false => exact ⟨_, if_neg (by simp)⟩
  | true =>
   rw [if_pos rfl]
   cases h2 : ((x : Int) != 0) with
   | false => exact ⟨_, if_neg (by simp)⟩
   | true =>
    rw [if_pos rfl]
    cases d with
    | zero => have h0 : x = 0 := hu; subst h0; simp at h2
    | succ d =>
     rcases hu with h0 | hu
     ·subst h0; simp at h2
     ·exact ZEU t d n _ hu (by omega)
end Go.VM.VL
set_option linter.unusedSimpArgs false
set_option linter.unusedVariables false
namespace Go.VM.VL
open Go
variable {R : Type} (N : Nat)
def ZlR (l : List Nod) : Nat → Nat → Prop
 | 0, n => n = 0
 | x + 1, n => n = 0 ∨ ∃ a j, a < l.length ∧ j < (at_ l a).es.length ∧ kid l a j = n ∧ Zb1 l n = true ∧ ZlR l x a
theorem Zmc {l : List Nod} : ∀ x n, ZlR l x n → ZlR l (x + 1) n
 | 0, n, h => .inl h
 | x + 1, n, .inl h => .inl h
 | x + 1, n, .inr ⟨a, j, h1, h2, h3, h4, h5⟩ => .inr ⟨a, j, h1, h2, h3, h4, Zmc x a h5⟩
theorem Zmp {l : List Nod} (h : Linked l) : ∀ x, ∀ n ∈ bfs l x, ZlR l x n
 | 0, n, hn => by rw [bfs] at hn; exact List.mem_singleton.1 hn
 | x + 1, n, hn => by
  rw [bfs] at hn
  split at hn
  ·rename_i hx
   rcases List.mem_append.1 hn with h1 | h1
   ·exact Zmc _ _ (Zmp h x n h1)
   ·have hm : at_ (bfs l x) x ∈ bfs l x := Zek hx
    have ha := (ZeI h x).dist.lt _ hm
    obtain ⟨hd, j, hj, rfl⟩ := ZkN.1 h1
    exact .inr ⟨_, j, ha, hj, rfl, hd, Zmp h x _ hm⟩
  ·exact Zmc _ _ (Zmp h x n hn)
theorem ZJ2 {l : List Nod} {room : Int} (hl : Small l) (h : ZhW l room = true) {n : Nat} (hn : Zb1 l n = true) : ZlR l l.length n := by
 have hf := Zwt hl h
 unfold ZhW at h
 simp only [Bool.and_eq_true, Zbi] at h
 have := h.2 n (ZjG hn)
 rw [hn] at this
 exact Zmp hf.tied _ n (List.contains_iff_mem.1 (by simpa using this))
theorem ZCe {l : List Nod} (h : Linked l) {a j i : Nat} (ha : a < l.length) (hj : j < (at_ l a).es.length) (hi : i < (at_ l a).es.length) (hd : Zb1 l (kid l a j) = true) (he : (at_ (at_ l a).es i).2 = (kid l a j : Nat)) : i = j := by
 have hk := (h.ent.kid ha hj).2
 have hle := h.le hd
 generalize kid l a j = n at *
 have h1 : Za2 l n l.length ≥ ZcA (at_ l a).es n (at_ l a).es.length := ZjD (fun i => ZcA (at_ l i).es (n : Nat) (at_ l i).es.length) ha
 have key : ∀ p q, p < q → q < (at_ l a).es.length → (at_ (at_ l a).es p).2 = (n : Nat) → (at_ (at_ l a).es q).2 = (n : Nat) → False := by
  intro p q hpq hq hp2 hq2
  have := Zkq (fun j => ((at_ (at_ l a).es j).2 == (n : Int)).toNat) hpq hq
  simp only [hp2, hq2, beq_self_eq_true, Bool.toNat_true] at this
  unfold ZcA at h1
  split at hle <;> omega
 rcases Nat.lt_trichotomy i j with h3 | h3 | h3
 ·exact (key i j h3 hj he hk).elim
 ·exact h3
 ·exact (key j i h3 hi hk he).elim
theorem ZfN {l : List Nod} (h : Linked l) {a j : Nat} (ha : a < l.length) (hj : j < (at_ l a).es.length) (hd : Zb1 l (kid l a j) = true) : ZbS l (kid l a j : Nat) = (a, (at_ (at_ l a).es j).1) := by
 have h1 := ZkG h ha hj hd
 have hone := fun i hi => ZCe h ha hj (i := i) hi hd
 have hk := (h.ent.kid ha hj).2
 generalize hn : kid l a j = n at *
 unfold ZbS at h1 ⊢
 cases hf : (List.range' 0 l.length).findSome? (Zcl l (n : Nat)) with
 | none =>
  have := ZcI.1 hf a ha
  unfold Zcl at this
  cases hb : ZdR (at_ l a).es (n : Nat) with
  | some w => rw [hb] at this; cases this
  | none =>
   have := ZcI.1 hb j hj
   rw [beq_iff_eq.2 hk, if_pos rfl] at this
   cases this
 | some p =>
  rw [hf] at h1
  simp only at h1
  obtain ⟨i, _, hx⟩ := List.exists_of_findSome?_eq_some hf
  unfold Zcl at hx
  split at hx
  ·rename_i w hw
   obtain rfl := Option.some.inj hx
   simp only at h1
   subst h1
   unfold ZdR at hw
   obtain ⟨m, hm, hx2⟩ := List.exists_of_findSome?_eq_some hw
   rw [List.mem_range'] at hm
   obtain ⟨m', hm', rfl⟩ := hm
   split at hx2
   ·rename_i hb
    have := hone (0 + 1 * m') (by omega) (beq_iff_eq.1 hb)
    rw [this] at hx2
    show (i, w) = _
    rw [← Option.some.inj hx2]
   ·cases hx2
  ·cases hx
def Zdv (l : List Nod) : Nat → Nat → List ByteArray
 | 0, _ => []
 | d + 1, n => if n = 0 then [] else (ZbS l (n : Nat)).2 :: Zdv l d (ZbS l (n : Nat)).1
theorem Zfx (l : List Nod) : ∀ d n, (Zdv l d n).length ≤ d
 | 0, n => Nat.le_refl _
 | d + 1, n => by
  rw [Zdv]
  split
  ·exact Nat.zero_le _
  ·have := Zfx l d (ZbS l (n : Nat)).1
   simp; omega
theorem Zga {l : List Nod} (hl : Small l) (h : Linked l) : ∀ d n, ZlR l d n → ∀ p ∈ Zdv l d n, p.size ≤ 1048576
 | 0, n, _, p, hp => by rw [Zdv] at hp; cases hp
 | d + 1, n, hw, p, hp => by
  rw [Zdv] at hp
  split at hp
  ·cases hp
  ·rename_i h0
   rcases hw with hw | ⟨a, j, ha, hj, rfl, hd, hw⟩
   ·exact absurd hw h0
   ·rw [ZfN h ha hj hd] at hp
    rcases List.mem_cons.1 hp with rfl | hp
    ·exact hl.name a ha j hj
    ·exact Zga hl h d a hw p hp
theorem ZsV {l : List Nod} (hl : Small l) (h : Linked l) (hN : 1048580 < N) {a j : Nat} (ha : a < l.length) (hj : j < (at_ l a).es.length) (hd : Zb1 l (kid l a j) = true) (rec_ : (R : Type) → List V → Fl → Int → Int → (List V → Option R) → Option R) (x2 : Int) (f : Fl) (e8 : List V) (f9 : Fl) (x10 : Int) (k0 : ByteArray → Option R) :
  Ze4 N rec_ (kid l a j : Nat) x2 (ZbB (at_ l a).es) f ((at_ l a).es.length : Int) e8 f9 x10 k0 N (ByteArray.mk #[]) 0 = k0 (at_ (at_ l a).es j).1 := by
 have hes := hl.es a ha
 have hk := (h.ent.kid ha hj).2
 have hone := fun i hi => ZCe h ha hj (i := i) hi hd
 generalize kid l a j = n at *
 refine Eq.trans ?_ (ZbI (l := fun m i => Ze4 N rec_ (n : Nat) x2 (ZbB (at_ l a).es) f ((at_ l a).es.length : Int) e8 f9 x10 k0 m (if j < i then (at_ (at_ l a).es j).1 else ByteArray.mk #[]) (i : Int)) (len := (at_ l a).es.length) ?_ ?_ (show (at_ l a).es.length < N by omega))
 ·rw [if_neg (Nat.not_lt_zero _)]; rfl
 ·intro m i hi
  simp only [Ze4, Zds, Zbc hi, Int.natCast_nonneg, if_true, Int.toNat_natCast, ZbP hi, Zag, Zcw]
  rw [ZaD (i := i) (by omega)]
  by_cases hij : i = j
  ·subst hij
   rw [beq_iff_eq.2 hk, if_pos (Nat.lt_succ_self i)]
  ·have : ((at_ (at_ l a).es i).2 == ((n : Nat) : Int)) = false := beq_false_of_ne fun hc => hij (hone i hi hc)
   rw [this]
   simp only
   congr 1
   by_cases h1 : j < i
   ·rw [if_pos h1, if_pos (by omega)]
   ·rw [if_neg h1, if_neg (by omega)]
 ·intro m
  simp only [Ze4, Zds, Int.lt_irrefl, decide_false, if_pos hj]
theorem Zoz (xs : List ByteArray) (p : ByteArray) : ZaJ xs ++ [V.str p] = ZaJ (xs ++ [p]) := by simp [ZaJ]
theorem Zul {l : List Nod} (hl : Small l) (h : Linked l) (h40 : l.length ≤ 40) (hN : 1048580 < N) (room : Int) : ∀ (d M n : Nat), d ≤ 40 → d < M → ZlR l d n → ∀ (R : Type) (f : Fl) (k : List V → Option R), Zit N M R (nodsV l) f room (n : Int) k = k (ZaJ (Zdv l d n).reverse)
 | d, 0, n, _, hM, _, R, f, k => by omega
 | 0, M + 1, n, _, _, hw, R, f, k => by
  obtain rfl : n = 0 := hw
  rw [Zmd]; rfl
 | d + 1, M + 1, n, hd40, hM, hw, R, f, k => by
  rw [Zmd]
  unfold Zt3
  rw [Zdv]
  by_cases h0 : n = 0
  ·subst h0; rfl
  ·rw [if_neg h0]
   rcases hw with hw | ⟨a, j, ha, hj, rfl, hd, hw⟩
   ·exact absurd hw h0
   ·have hb : (((kid l a j : Nat) : Int) == 0) = false := beq_false_of_ne (by omega)
    rw [hb]
    simp only [Zk5 N hl hN, ZfN h ha hj hd, Int.natCast_nonneg, if_true, Int.toNat_natCast, Zbe ha, Zag, ZbD, Zbv]
    rw [ZsV N hl h hN ha hj hd, Zul hl h h40 hN room d M a (by omega) (by omega) hw]
    have := Zfx l d a
    rw [Zba, if_pos (by simp; omega), Zoz, List.reverse_cons]
def ZkP (ps : List ByteArray) : ByteArray := if ps = [] then ByteArray.mk #[47] else ba ((ps.map fun p => 47 :: bl p).flatten)
theorem ZK6 (a b : ByteArray) : bl (a ++ b) = bl a ++ bl b := by
 unfold bl
 rw [ByteArray.data_append, Array.toList_append]
theorem ZCy (ps : List ByteArray) {i : Nat} (hi : i < ps.length) : ((ps.take (i + 1)).map fun p => 47 :: bl p).flatten = ((ps.take i).map fun p => 47 :: bl p).flatten ++ (47 :: bl (at_ ps i)) := by
 rw [List.take_succ_eq_append_getElem hi, ZbW hi, List.map_append, List.flatten_append, List.map_cons, List.map_nil, List.flatten_cons, List.flatten_nil, List.append_nil]
theorem Zuf (ps : List ByteArray) (hs : ∀ p ∈ ps, p.size ≤ 1048576) : ((ps.map fun p => 47 :: bl p).flatten).length ≤ 1048577 * ps.length := by
 induction ps with
 | nil => simp
 | cons p ps ih =>
  have h1 := hs p (List.mem_cons_self ..)
  have h2 := ih fun q hq => hs q (List.mem_cons_of_mem _ hq)
  rw [ZbR] at h1
  rw [List.map_cons, List.flatten_cons, List.length_append, List.length_cons, List.length_cons]
  omega
theorem ZJL {ps : List ByteArray} (hl : ps.length ≤ 40) (hs : ∀ p ∈ ps, p.size ≤ 1048576) (hN : 1048580 < N) (f : Fl) (k : ByteArray → Option R) : ZD1 N (ZaJ ps) f k = k (ZkP ps) := by
 rw [Zt1]
 unfold Zqg ZkP
 rw [Zba]
 by_cases h0 : ps = []
 ·subst h0; rfl
 ·have hlen : 0 < ps.length := List.length_pos_iff.2 h0
  have hb : (((ps.length : Nat) : Int) == 0) = false := beq_false_of_ne (by omega)
  rw [if_neg h0, hb]
  simp only
  refine Eq.trans ?_ (ZbI (l := fun m i => Zf9 N (ZaJ ps) f.noOwn (ps.length : Int) (fun w5 => k w5) m (ba (((ps.take i).map fun p => 47 :: bl p).flatten)) (i : Int)) (len := ps.length) ?_ ?_ (show ps.length < N by omega))
  ·rfl
  ·intro m i hi
   have h1 := Zuf (ps.take i) fun p hp => hs p (List.mem_of_mem_take hp)
   have h2 : (ps.take i).length ≤ 40 := by rw [List.length_take]; omega
   have h3 := hs _ (Zek hi)
   have e1 : (ByteArray.mk #[47]).size = 1 := rfl
   have e2 : ((ByteArray.mk #[47]) ++ at_ ps i).size = 1 + (at_ ps i).size := by rw [ByteArray.size_append]; rfl
   simp only [Zf9, ZcS, Zbc hi, Int.natCast_nonneg, if_true, Int.toNat_natCast, ZdA hi, Zag, ZdS]
   rw [e1, if_pos (by omega), e2, ZbR, Zw1, if_pos (by omega), ZaD (i := i) (by omega), ZCy ps hi]
   rfl
  ·intro m
   simp only [Zf9, ZcS, Int.lt_irrefl, decide_false, List.take_length]
theorem Zzz (ps : List ByteArray) : strsOf (ZaJ ps) = some ps := by
 induction ps with
 | nil => rfl
 | cons p ps ih => show strsOf (V.str p :: ZaJ ps) = _; rw [strsOf, ih]
theorem ZBZ (ps : List ByteArray) : (ZaJ ps).map V.lent = ZaJ ps := by unfold ZaJ; rw [List.map_map]; rfl
theorem ZFn (ps : List ByteArray) : (ZaJ ps).reverse = ZaJ ps.reverse := by unfold ZaJ; rw [List.map_reverse]
theorem Ztk (st : S) (ps : List ByteArray) : Zbl (Zbh true st 11) (ZaJ ps) = some (ZaJ ps) := Zcy fun v hv => by
 obtain ⟨p, _, rfl⟩ := List.mem_map.1 hv
 rfl
theorem ZA1 (o : Option Ob) (es : List V) (ver : Nat) : Zcq [o, some ⟨es, 1, 9, ver⟩] 1 ver = some ⟨es, 1, 9, ver⟩ := by simp [Zcq, nth]
theorem Zkt {l : List Nod} (hl : Small l) (h : Linked l) (hN : 1048580 < N) (f : Fl) (room : Int) (k0 : Nat → Nat → Ob → Option R) : ∀ (d n m : Nat) (acc : List ByteArray), acc.length + d ≤ 80 → d < m → ZlR l d n →
  Zig N (nodsV l) f room k0 m (n : Int) acc.length acc.length ⟨ZaJ acc, 1, 9, acc.length⟩ = k0 (acc ++ Zdv l d n).length (acc ++ Zdv l d n).length ⟨ZaJ (acc ++ Zdv l d n), 1, 9, (acc ++ Zdv l d n).length⟩
 | d, n, 0, acc, _, hM, _ => by omega
 | 0, n, m + 1, acc, _, _, hw => by
  obtain rfl : n = 0 := hw
  rw [Zdv, List.append_nil]; rfl
 | d + 1, n, m + 1, acc, ha80, hM, hw => by
  simp only [Zig, Zd8]
  rw [Zdv]
  by_cases h0 : n = 0
  ·subst h0; rw [if_pos rfl, List.append_nil]; rfl
  ·rw [if_neg h0]
   rcases hw with hw | ⟨a, j, ha, hj, rfl, hd, hw⟩
   ·exact absurd hw h0
   ·have hb : (((kid l a j : Nat) : Int) != 0) = true := by simpa using h0
    rw [hb]
    simp only [Zv3 N hl hN, ZfN h ha hj hd, ZA1, Zao, Nat.beq_refl, Zba, Nat.le_refl, if_true]
    have e1 : (ZaJ acc).take acc.length = ZaJ acc := List.take_of_length_le (by rw [Zba]; exact Nat.le_refl _)
    rw [e1]
    simp only [ZA1, Nat.beq_refl, Zba]
    rw [if_pos ⟨trivial, trivial, by omega, by decide⟩, Zoz]
    have hle : (acc ++ [(at_ (at_ l a).es j).1]).length = acc.length + 1 := by simp
    rw [← hle, Zkt hl h hN f room k0 d a m (acc ++ [(at_ (at_ l a).es j).1]) (by rw [hle]; omega) (by omega) hw, List.append_assoc]
    rfl
theorem ZAl (ps : List ByteArray) : (ByteArray.mk #[47]) ++ (⟨(Lib.join (ps.map (·.data.toList)) (ByteArray.mk #[47]).data.toList).toArray⟩ : ByteArray) = ZkP ps := by
 unfold ZkP
 have hx : ∀ (u v : ByteArray), bl u = bl v → u = v := fun u v h => by rw [← Zw7 u, ← Zw7 v, h]
 apply hx
 rw [ZK6]
 cases ps with
 | nil => rfl
 | cons p ps =>
  rw [if_neg (by simp), Zw1]
  have e : bl (⟨(Lib.join ((p :: ps).map (·.data.toList)) (ByteArray.mk #[47]).data.toList).toArray⟩ : ByteArray) = Lib.join ((p :: ps).map (·.data.toList)) [47] := rfl
  rw [e, List.map_cons, Lib.join_cons]
  unfold Lib.joinTail
  rw [List.map_map, List.map_cons, List.flatten_cons]
  rfl
theorem ZEa (ps : List ByteArray) (hs : ∀ p ∈ ps, p.size ≤ 1048576) : (Lib.join (ps.map (·.data.toList)) (ByteArray.mk #[47]).data.toList).length ≤ 1048577 * ps.length := by
 cases ps with
 | nil => simp [Lib.join_nil]
 | cons p ps =>
  have h2 := Zuf (p :: ps) hs
  have e : (ByteArray.mk #[47]).data.toList = [47] := rfl
  rw [e, List.map_cons, Lib.join_cons]
  unfold Lib.joinTail
  rw [List.map_cons, List.flatten_cons] at h2
  rw [List.map_map]
  have e2 : ((fun x : List UInt8 => [47] ++ x) ∘ fun x : ByteArray => x.data.toList) = fun p => 47 :: bl p := rfl
  rw [e2]
  rw [List.length_append] at h2 ⊢
  have e3 : (47 :: bl p).length = p.data.toList.length + 1 := rfl
  rw [e3] at h2
  omega
theorem ZF0 {ps : List ByteArray} (hl : ps.length ≤ 40) (hs : ∀ p ∈ ps, p.size ≤ 1048576) (f : Fl) (k : ByteArray → Option R) : ZAc N (ZaJ ps) f k = k (ZkP ps) := by
 rw [ZuO]
 unfold Zow
 rw [Zvp]
 unfold Zpn ZGu
 have h1 := ZEa ps hs
 rw [Zzz]
 simp only
 have h2 : (Lib.join (ps.map (·.data.toList)) [47]).length ≤ 1048577 * ps.length := h1
 rw [if_pos ⟨by omega, by omega⟩]
 have e1 : (ByteArray.mk #[47]).size = 1 := rfl
 have e2 : (⟨(Lib.join (ps.map (·.data.toList)) (ByteArray.mk #[47]).data.toList).toArray⟩ : ByteArray).size = (Lib.join (ps.map (·.data.toList)) (ByteArray.mk #[47]).data.toList).length := by simp [ByteArray.size]
 rw [e1, e2, if_pos (by omega), ZAl]
theorem ZDR {l : List Nod} (hl : Small l) (h : Linked l) (h40 : l.length ≤ 40) (hN : 1048580 < N) (f : Fl) (room : Int) {n : Nat} (hw : ZlR l l.length n) (k : ByteArray → Option R) : ZGm N (nodsV l) f room (n : Int) k = k (ZkP (Zdv l l.length n).reverse) := by
 rw [Zwn]
 unfold Zor
 have hloop := Zkt (R := R) N hl h hN f room (fun k9 k10 O11 => (match Zcq [some ⟨[.agg [.list 7 (nodsV l) f, .int .i64 room]], 2, 34, 0⟩, some O11] 1 k9 with
  | some ob12 => (match Nat.beq ob12.esz 1 && Nat.beq 0 0 && Nat.beq k10 ob12.es.length && (strsOf ob12.es).isSome with
   | true => (match Zcq [some ⟨[.agg [.list 7 (nodsV l) f, .int .i64 room]], 2, 34, 0⟩, some { ob12 with es := (ob12.es.reverse) }] 1 k9 with
   | some ob13 => (match Zbl (Zbh true [some ⟨[.agg [.list 7 (nodsV l) f, .int .i64 room]], 2, 34, 0⟩, some { ob12 with es := (ob12.es.reverse) }] 11) ((ob13.es.drop 0).take k10) with
    | some e14 => Zao (decide (0 + k10 ≤ ob13.es.length)) ((match Nat.beq ob13.esz 1 with
     | true => ZAc N (e14.map V.lent) .bor fun w15 => k w15
     | false => none))
    | none => none)
   | none => none)
   | false => none)
  | none => none)) l.length n N [] (by simp; omega) (by omega) hw
 refine hloop.trans ?_
 rw [List.nil_append]
 have hl2 := Zfx l l.length n
 have hs2 := Zga hl h l.length n hw
 generalize Zdv l l.length n = ps at *
 simp only [ZA1, Nat.beq_refl, Zba, Zzz, Option.isSome_some, Bool.and_self, ZFn, List.drop_zero]
 have e1 : (ZaJ ps.reverse).take ps.length = ZaJ ps.reverse := List.take_of_length_le (by rw [Zba]; simp)
 rw [e1, Ztk]
 simp only [Zao, Zba, List.length_reverse, Nat.zero_add, Nat.le_refl, decide_true, ZBZ]
 exact ZF0 N (by simp; omega) (fun p hp => hs2 p (List.mem_reverse.1 hp)) _ _
end Go.VM.VL
set_option linter.unusedSimpArgs false
set_option linter.unusedVariables false
namespace Go.VM.VL
open Go
variable {R : Type} (N : Nat)
def ZDf (l : List Nod) (r : Int × Int) : Int × Int := if r.2 == 0 then if (at_ l r.1.toNat).kind != 2 then (0, 3) else r else r
theorem ZIe {l : List Nod} (hf : Fine l) (hN : 1048580 < N) {w : ByteArray} (hw : w.size ≤ 1048576) (f : Fl) (room cu cg : Int) {r : Int × Int} (hr : ZkB N l cu cg w true = some r) (k : Int → Int → Option R) : ZD9 N (nodsV l) f room cu cg w k = k (ZDf l r).1 (ZDf l r).2 := by
 obtain ⟨g1, g2⟩ := Znn N hf hr
 rw [ZwA]
 unfold Zqk ZDf
 rw [ZFR N hf hN hw _ room cu cg true hr]
 cases h1 : (r.2 == 0) with
 | false => rfl
 | true =>
  simp only [if_true]
  rw [if_pos (by omega), Zbe g2]
  simp only [Zag, ZbD]
  cases h2 : ((at_ l r.1.toNat).kind != 2) <;> simp
theorem Zq8 {l : List Nod} (hf : Fine l) (hN : 1048580 < N) {w : ByteArray} (hw : w.size ≤ 1048576) (f : Fl) (room cu cg : Int) {r : Int × Int} (hr : ZkB N l cu cg w true = some r) (k : Int → Int → Option R) : ZGc N (nodsV l) f room cu cg w k = k (ZDf l r).1 (ZDf l r).2 := by
 obtain ⟨g1, g2⟩ := Znn N hf hr
 rw [Zui]
 unfold Zo4 ZDf
 rw [ZI0 N hf hN hw _ room cu cg true hr]
 cases h1 : (r.2 == 0) with
 | false => rfl
 | true =>
  simp only [if_true]
  have := ZrM (R := R) N g2 f.noOwn.noOwn room (fun b3 => (match (!b3) with
  | true => k 0 3
  | false => k r.1 r.2))
  rw [← g1] at this
  refine this.trans ?_
  unfold bne
  cases h2 : ((at_ l r.1.toNat).kind == 2) <;> simp
theorem ZDs {l : List Nod} {r : Int × Int} (h : r.1 = ((r.1.toNat : Nat) : Int)) (h0 : ((ZDf l r).2 != 0) = false) : ∃ n : Nat, (ZDf l r).1 = (n : Int) ∧ Zb1 l n = true := by
 unfold ZDf at h0 ⊢
 cases h1 : (r.2 == 0) with
 | false =>
  rw [h1] at h0
  simp only [Bool.false_eq_true, if_false] at h0
  rw [bne, h1] at h0; exact absurd h0 (by decide)
 | true =>
  rw [h1, if_pos rfl] at h0
  rw [if_pos rfl]
  cases h2 : ((at_ l r.1.toNat).kind != 2) with
  | true => rw [h2, if_pos rfl] at h0; exact absurd h0 (by decide)
  | false =>
   refine ⟨r.1.toNat, by simpa using h, ?_⟩
   unfold Zb1
   simpa [bne] using h2
theorem law_FnExactRealPath {l : List Nod} (hl : FsOk l) (f : Fl) (room cu cg : Int) (w : ByteArray) (hw : w.size ≤ 9223372036854775807) (k : Bool → Option R) :
  Zk6 1048600 (nodsV l) f room cu cg w k = k true := by
 unfold Zk6
 by_cases h : (w.size : Int) > 1048576
 ·rw [decide_eq_true h]
 rw [decide_eq_false h]
 simp only
 rw [ZLp 1048600 hl (by omega) _ _ _ (by omega) (by omega)]
 by_cases h2 : (ZGW l : Int) ≤ 1048576
 ·have hs := Small.of (l := l) (by omega)
  have hN : 1048580 < 1048600 := by omega
  have hN1 : 1048576 < 1048600 := by omega
  have hw2 : w.size ≤ 1048576 := by omega
  rw [Zic h2, decide_eq_false (by omega)]
  simp only [ZuC 1048600 hs hN1, ZFg]
  rw [Zwr, Zwd]
  unfold ZpT Zp2
  simp only [ZAd 1048600 hs hN, ZBD 1048600 hs hN]
  cases ha : ZfI l room cu cg with
  | false => simp only [ZuC 1048600 hs hN1, ZzK 1048600 hs hN1, bne_self_eq_false, beq_self_eq_true, Bool.not_true, Bool.not_false]
  | true =>
   have hf := ZrN hs ha
   obtain ⟨r, hrr⟩ := ZCi 1048600 hf.toFine hN cu cg w true
   obtain ⟨g1, g2⟩ := Znn 1048600 hf.toFine hrr
   simp only [Bool.not_true, ZIe 1048600 hf.toFine hN hw2 _ _ _ _ hrr, Zq8 1048600 hf.toFine hN hw2 _ _ _ _ hrr]
   cases hc : ((ZDf l r).2 != 0) with
   | true => simp only [ZuC 1048600 hs hN1, ZzK 1048600 hs hN1, bne_self_eq_false, beq_self_eq_true, Bool.not_true]
   | false =>
    obtain ⟨n, e1, e2⟩ := ZDs g1 hc
    have hg : ZhW l room = true := by
     unfold ZfI at ha
     rw [Bool.and_eq_true] at ha
     exact ha.1
    have hway := ZJ2 hs hg e2
    have hsz := Zga hs hf.tied l.length n hway
    have hlen := Zfx l l.length n
    have h40 := hf.len
    have e3 := fun (R : Type) f' k' => ZJL (R := R) 1048600 (ps := (Zdv l l.length n).reverse) (by simp; omega) (fun p hp => hsz p (List.mem_reverse.1 hp)) hN f' k'
    rw [e1]
    simp only [Zul 1048600 hs hf.tied h40 hN room l.length 1048600 n h40 (by omega) hway, ZDR 1048600 hs hf.tied h40 hN _ room hway, e3, ZuC 1048600 hs hN1, ZzK 1048600 hs hN1, bne_self_eq_false, beq_self_eq_true, Bool.not_true]
 ·rw [Zey h2]
  rfl
end Go.VM.VL
set_option linter.unusedSimpArgs false
set_option linter.unusedVariables false
namespace Go.VM.VL
open Go
def ZcW (fs : Array Field) (ts : List (TypeId × Nat)) : Prop := fs.toList.map (fun f => (f.type, f.offset)) = ts
theorem Zhg {P : Program} {n : Nat} {fs : Array Field} {ts : List (TypeId × Nat)} {ds : List V} (hfs : ZcW fs ts) (h2 : ∀ f ∈ fs.toList, Ze9 P n f.type ((ds.drop f.offset).take (P.cellsOf f.type))) :
  ∀ p ∈ ts, Ze9 P n p.1 ((ds.drop p.2).take (P.cellsOf p.1)) := by
 intro p hp
 rw [← hfs] at hp
 obtain ⟨f, hf, rfl⟩ := List.mem_map.1 hp
 exact h2 f hf
theorem ZcB {P : Program} {n : Nat} {ds : List V} {t : TypeId} {o : Nat} (u : P.underlying t = some (.int .i64)) (c : P.cellsOf t = 1) (ho : o < ds.length) (h : Ze9 P (n + 1) t ((ds.drop o).take (P.cellsOf t))) : ∃ z, nth ds o = some (.int .i64 z) := by
 obtain ⟨z, hz, _⟩ := ZE6 u h
 rw [c, List.drop_eq_getElem_cons ho] at hz
 have hz' : [ds[o]] = [V.int .i64 z] := hz
 exact ⟨z, by rw [Zfl ho, (List.cons.inj hz').1]⟩
theorem ZoK {P : Program} {n : Nat} {ds : List V} {t : TypeId} {o : Nat} (u : P.underlying t = some .string) (c : P.cellsOf t = 1) (ho : o < ds.length) (h : Ze9 P (n + 1) t ((ds.drop o).take (P.cellsOf t))) : ∃ s, nth ds o = some (.str s) ∧ s.size ≤ maxLen := by
 obtain ⟨s, hz, hs⟩ := Zka u h
 rw [c, List.drop_eq_getElem_cons ho] at hz
 have hz' : [ds[o]] = [V.str s] := hz
 exact ⟨s, by rw [Zfl ho, (List.cons.inj hz').1], hs⟩
theorem ZqB {P : Program} {n : Nat} {ds : List V} {t : TypeId} {o : Nat} (c : P.cellsOf t = 1) (ho : o < ds.length) (h : Ze9 P n t ((ds.drop o).take (P.cellsOf t))) : Ze9 P n t [ds[o]] := by
 rw [c, List.drop_eq_getElem_cons ho] at h
 exact h
theorem ZJ8 {P : Program} {n tS tI : Nat} {fs : Array Field} {ds : List V} (hl : ds.length = 2) (hfs : ZcW fs [(tS, 0), (tI, 1)]) (uS : P.underlying tS = some .string) (uI : P.underlying tI = some (.int .i64)) (cS : P.cellsOf tS = 1) (cI : P.cellsOf tI = 1)
  (h2 : ∀ f ∈ fs.toList, Ze9 P (n + 1) f.type ((ds.drop f.offset).take (P.cellsOf f.type))) : ∃ e : Ent, V.agg ds = ZDe e ∧ e.1.size ≤ maxLen := by
 have h3 := Zhg hfs h2
 obtain ⟨s, hs, hz⟩ := ZoK (o := 0) uS cS (by omega) (h3 (tS, 0) (by simp))
 obtain ⟨z, hi⟩ := ZcB (o := 1) uI cI (by omega) (h3 (tI, 1) (by simp))
 match ds, hl with
 | [x, y], _ =>
  obtain rfl := Option.some.inj hs
  obtain rfl := Option.some.inj hi
  exact ⟨(s, z), rfl, hz⟩
theorem ZLd {P : Program} {n tS tI tE tL : Nat} {fs fe : Array Field} {ds : List V} (hl : ds.length = 7) (hfs : ZcW fs [(tI, 0), (tI, 1), (tI, 2), (tI, 3), (tI, 4), (tS, 5), (tL, 6)]) (hfe : ZcW fe [(tS, 0), (tI, 1)])
  (uS : P.underlying tS = some .string) (uI : P.underlying tI = some (.int .i64)) (uL : P.underlying tL = some (.slice tE)) (uE : P.underlying tE = some (.struct fe)) (cS : P.cellsOf tS = 1) (cI : P.cellsOf tI = 1) (cL : P.cellsOf tL = 1) (cE : P.cellsOf tE = 2)
  (h2 : ∀ f ∈ fs.toList, Ze9 P (n + 3) f.type ((ds.drop f.offset).take (P.cellsOf f.type))) : ∃ a : Nod, V.agg ds = ZDd a ∧ (a.data.size ≤ maxLen ∧ a.es.length ≤ maxLen ∧ ∀ e ∈ a.es, e.1.size ≤ maxLen) := by
 have h3 := Zhg hfs h2
 obtain ⟨z0, i0⟩ := ZcB (o := 0) uI cI (by omega) (h3 (tI, 0) (by simp))
 obtain ⟨z1, i1⟩ := ZcB (o := 1) uI cI (by omega) (h3 (tI, 1) (by simp))
 obtain ⟨z2, i2⟩ := ZcB (o := 2) uI cI (by omega) (h3 (tI, 2) (by simp))
 obtain ⟨z3, i3⟩ := ZcB (o := 3) uI cI (by omega) (h3 (tI, 3) (by simp))
 obtain ⟨z4, i4⟩ := ZcB (o := 4) uI cI (by omega) (h3 (tI, 4) (by simp))
 obtain ⟨s, hs, hz⟩ := ZoK (o := 5) uS cS (by omega) (h3 (tS, 5) (by simp))
 have hL := ZqB cL (show 6 < ds.length by omega) (h3 (tL, 6) (by simp))
 obtain ⟨l, he, hel, hq⟩ := ZiB (f := ZDe) (q := fun e : Ent => e.1.size ≤ maxLen) uL uE (fun ds h1 h2 => ZJ8 (n := n) (h1.trans cE) hfe uS uI cS cI h2) hL
 obtain ⟨x0, x1, x2, x3, x4, x5, x6, rfl⟩ : ∃ x0 x1 x2 x3 x4 x5 x6, ds = [x0, x1, x2, x3, x4, x5, x6] := by
  clear hL he h3 h2 i0 i1 i2 i3 i4 hs
  match ds, hl with
  | [x0, x1, x2, x3, x4, x5, x6], _ => exact ⟨x0, x1, x2, x3, x4, x5, x6, rfl⟩
 obtain rfl := Option.some.inj i0
 obtain rfl := Option.some.inj i1
 obtain rfl := Option.some.inj i2
 obtain rfl := Option.some.inj i3
 obtain rfl := Option.some.inj i4
 obtain rfl := Option.some.inj hs
 have he' : x6 = .list (P.cellsOf tE) (l.map ZDe) .sh := he
 rw [cE] at he'
 subst he'
 exact ⟨⟨z0, z1, z2, z3, z4, s, l⟩, rfl, hz, hel, hq⟩
theorem fs_of {P : Program} {n tS tI tE tL tN tM : Nat} {ff fs fe : Array Field} {ds : List V} (hl : ds.length = 2) (hff : ZcW ff [(tM, 0), (tI, 1)]) (hfs : ZcW fs [(tI, 0), (tI, 1), (tI, 2), (tI, 3), (tI, 4), (tS, 5), (tL, 6)]) (hfe : ZcW fe [(tS, 0), (tI, 1)])
  (uM : P.underlying tM = some (.slice tN)) (uN : P.underlying tN = some (.struct fs)) (uS : P.underlying tS = some .string) (uI : P.underlying tI = some (.int .i64)) (uL : P.underlying tL = some (.slice tE)) (uE : P.underlying tE = some (.struct fe))
  (cM : P.cellsOf tM = 1) (cN : P.cellsOf tN = 7) (cS : P.cellsOf tS = 1) (cI : P.cellsOf tI = 1) (cL : P.cellsOf tL = 1) (cE : P.cellsOf tE = 2)
  (h2 : ∀ f ∈ ff.toList, Ze9 P (n + 5) f.type ((ds.drop f.offset).take (P.cellsOf f.type))) : ∃ (l : List Nod) (room : Int), ds = [.list 7 (nodsV l) .sh, .int .i64 room] ∧ FsOk l := by
 have h3 := Zhg hff h2
 obtain ⟨z, hi⟩ := ZcB (o := 1) uI cI (by omega) (h3 (tI, 1) (by simp))
 have hL := ZqB cM (show 0 < ds.length by omega) (h3 (tM, 0) (by simp))
 obtain ⟨l, he, hel, hq⟩ := ZiB (f := ZDd) (q := fun a : Nod => a.data.size ≤ maxLen ∧ a.es.length ≤ maxLen ∧ ∀ e ∈ a.es, e.1.size ≤ maxLen) uM uN (fun ds h1 h2 => ZLd (n := n) (h1.trans cN) hfs hfe uS uI uL uE cS cI cL cE h2) hL
 obtain ⟨x, y, rfl⟩ : ∃ x y, ds = [x, y] := by
  clear hL he h3 h2 hi
  match ds, hl with
  | [x, y], _ => exact ⟨x, y, rfl⟩
 ·obtain rfl := Option.some.inj hi
  have he' : x = .list (P.cellsOf tN) (l.map ZDd) .sh := he
  rw [cN] at he'
  subst he'
  exact ⟨l, z, rfl, hel, fun i hi => by
   have := hq _ (Zek hi)
   exact ⟨this.1, this.2.1, fun j hj => this.2.2 _ (Zek hj)⟩⟩
theorem cred_of {P : Program} {n tI : Nat} {ff : Array Field} {ds : List V} (hl : ds.length = 2) (hff : ZcW ff [(tI, 0), (tI, 1)]) (uI : P.underlying tI = some (.int .i64)) (cI : P.cellsOf tI = 1)
  (h2 : ∀ f ∈ ff.toList, Ze9 P (n + 1) f.type ((ds.drop f.offset).take (P.cellsOf f.type))) : ∃ a b : Int, ds = [.int .i64 a, .int .i64 b] := by
 have h3 := Zhg hff h2
 obtain ⟨z0, i0⟩ := ZcB (o := 0) uI cI (by omega) (h3 (tI, 0) (by simp))
 obtain ⟨z1, i1⟩ := ZcB (o := 1) uI cI (by omega) (h3 (tI, 1) (by simp))
 match ds, hl with
 | [x, y], _ =>
  obtain rfl := Option.some.inj i0
  obtain rfl := Option.some.inj i1
  exact ⟨z0, z1, rfl⟩
end Go.VM.VL
