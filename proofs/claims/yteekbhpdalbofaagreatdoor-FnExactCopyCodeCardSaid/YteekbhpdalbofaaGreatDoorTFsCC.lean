/- The plain laws of the printed functions, from the bottom up to the law itself. -/
import Derived.Test.YteekbhpdalbofaaGreatDoorXC
import Derived.Test.YteekbhpdalbofaaGreatDoorTLib
import Derived.Test.YteekbhpdalbofaaGreatDoorVmZe
set_option linter.unusedSimpArgs false
set_option linter.unusedVariables false
namespace Go.VM.VL
section loops
variable {R β : Type} {l : Nat → Nat → Option R} {len : Nat} {k0 k1 : Option R}
theorem Zql (hs : ∀ n i, i < len → l (n + 1) i = l n (i + 1)) (he : ∀ n, l (n + 1) len = k1) : ∀ (d n i : Nat), i + d = len → d < n → l n i = k1 := by
 intro d
 induction d with
 | zero =>
  intro n i hi hn
  obtain ⟨n, rfl⟩ : ∃ m, n = m + 1 := ⟨n - 1, by omega⟩
  obtain rfl : i = len := by omega
  exact he n
 | succ d ih =>
  intro n i hi hn
  obtain ⟨n, rfl⟩ : ∃ m, n = m + 1 := ⟨n - 1, by omega⟩
  rw [hs n i (by omega)]
  exact ih n (i + 1) (by omega) (by omega)
theorem ZbX (hs : ∀ n i, i < len → l (n + 1) i = l n (i + 1)) (he : ∀ n, l (n + 1) len = k1) {N : Nat} (hN : len < N) : l N 0 = k1 :=
 Zql hs he len N 0 (by omega) hN
theorem Zux {q : Nat → Option β} {kb : β → Option R} (hs : ∀ n i, i < len → (∀ j, j < i → q j = none) → l (n + 1) i = match q i with | some b => kb b | none => l n (i + 1)) (he : (∀ j, j < len → q j = none) → ∀ n, l (n + 1) len = k1) :
  ∀ (d n i : Nat), i + d = len → d < n → (∀ j, j < i → q j = none) → l n i = match (List.range' i d).findSome? q with | some b => kb b | none => k1 := by
 intro d
 induction d with
 | zero =>
  intro n i hi hn hq
  obtain ⟨n, rfl⟩ : ∃ m, n = m + 1 := ⟨n - 1, by omega⟩
  obtain rfl : i = len := by omega
  rw [he hq n]; rfl
 | succ d ih =>
  intro n i hi hn hq
  obtain ⟨n, rfl⟩ : ∃ m, n = m + 1 := ⟨n - 1, by omega⟩
  rw [hs n i (by omega) hq, List.range'_succ, List.findSome?_cons]
  cases h : q i with
  | none => exact ih n (i + 1) (by omega) (by omega) fun j hj => (by
    rcases Nat.lt_or_ge j i with h2 | h2
    ·exact hq j h2
    ·obtain rfl : j = i := by omega
     exact h)
  | some b => rfl
theorem Zb4 {q : Nat → Option β} {kb : β → Option R} (hs : ∀ n i, i < len → (∀ j, j < i → q j = none) → l (n + 1) i = match q i with | some b => kb b | none => l n (i + 1)) (he : (∀ j, j < len → q j = none) → ∀ n, l (n + 1) len = k1) {N : Nat} (hN : len < N) :
  l N 0 = match (List.range' 0 len).findSome? q with | some b => kb b | none => k1 :=
 Zux hs he len N 0 (by omega) hN fun j hj => absurd hj (by omega)
theorem ZcC {p : Nat → Bool} (hs : ∀ n i, i < len → (∀ j, j < i → p j = true) → l (n + 1) i = if p i then l n (i + 1) else k0) (he : (∀ j, j < len → p j = true) → ∀ n, l (n + 1) len = k1) {N : Nat} (hN : len < N) :
  l N 0 = if (List.range' 0 len).all p then k1 else k0 := by
 have := Zb4 (l := l) (len := len) (k1 := k1) (q := fun i => if p i then none else some ()) (kb := fun _ => k0)
  (fun n i hi hq => by
   rw [hs n i hi fun j hj => by
    have := hq j hj
    cases hp : p j with
    | true => rfl
    | false => simp [hp] at this]
   cases p i <;> rfl)
  (fun hq n => he (fun j hj => by
   have := hq j hj
   cases hp : p j with
   | true => rfl
   | false => simp [hp] at this) n) hN
 rw [this]
 generalize List.range' 0 len = L
 clear this hs he
 induction L with
 | nil => rfl
 | cons a L ih =>
  rw [List.findSome?_cons, List.all_cons]
  cases hp : p a with
  | false => simp
  | true => simpa using ih
theorem Zbp {p : Nat → Bool} {len : Nat} : (List.range' 0 len).all p = true ↔ ∀ i, i < len → p i = true := by
 rw [List.all_eq_true]
 exact ⟨fun h i hi => h i (by rw [List.mem_range']; exact ⟨i, hi, by omega⟩), fun h i hi => by
  rw [List.mem_range'] at hi
  obtain ⟨j, hj, rfl⟩ := hi
  exact h _ (by omega)⟩
theorem ZeA {q : Nat → Option β} {len : Nat} : (List.range' 0 len).findSome? q = none ↔ ∀ i, i < len → q i = none := by
 rw [List.findSome?_eq_none_iff]
 exact ⟨fun h i hi => h i (by rw [List.mem_range']; exact ⟨i, hi, by omega⟩), fun h i hi => by
  rw [List.mem_range'] at hi
  obtain ⟨j, hj, rfl⟩ := hi
  exact h _ (by omega)⟩
end loops
theorem Zei {α β : Type} (f : α → β) (l : List α) (i : Nat) : nth (l.map f) i = (nth l i).map f := by rw [Zam, Zam, List.getElem?_map]
theorem ZBX {α β : Type} (f : α → β) (l : List α) (i : Nat) (v : α) : Za7 (l.map f) i (f v) = (Za7 l i v).map f := by rw [ZbB, ZbB, List.map_set]
theorem Zfb {α : Type} {l : List α} {i : Nat} (h : i < l.length) : nth l i = some l[i] := by rw [Zam, List.getElem?_eq_getElem h]
theorem ZJh {α : Type} {l : List α} {i : Nat} {v : α} (h : i < l.length) : nth (Za7 l i v) i = some v := by rw [Zam, ZbB, List.getElem?_set_self h]
theorem Zc6 {α : Type} {f : α → Option α} : ∀ {l : List α}, (∀ v ∈ l, f v = some v) → Zbm f l = some l
 | [], _ => rfl
 | a :: l, h => by
  simp only [Zbm, h a (by simp), Zc6 (l := l) fun v hv => h v (by simp [hv])]
def inR (a b c : Int) : Bool := decide (b ≤ a) && decide (a ≤ c)
theorem Zb3 {a b c : Int} : inR a b c = true ↔ b ≤ a ∧ a ≤ c := by simp [inR]
theorem ZaH {i : Nat} (h : i < 9223372036854775807) : IntKind.i64.wrap ((i : Int) + 1) = ((i + 1 : Nat) : Int) := by
 rw [Zbf (by omega) (by omega)]; rfl
theorem Zbh {i n : Nat} (h : i < n) : decide ((i : Int) < (n : Int)) = true := decide_eq_true (by omega)
abbrev Ent := ByteArray × Int
structure Nod where
 kind : Int
 mode : Int
 uid : Int
 gid : Int
 time : Int
 data : ByteArray
 es : List Ent
instance : Inhabited Nod := ⟨⟨0, 0, 0, 0, 0, ByteArray.mk #[], []⟩⟩
instance : Inhabited Ent := ⟨(ByteArray.mk #[], 0)⟩
def ZFu (e : Ent) : V := .agg [.str e.1, .int .i64 e.2]
def ZbG (l : List Ent) : List V := l.map ZFu
def ZFt (n : Nod) : V := .agg [.int .i64 n.kind, .int .i64 n.mode, .int .i64 n.uid, .int .i64 n.gid, .int .i64 n.time, .str n.data, .list 2 (ZbG n.es) .sh]
def nodsV (l : List Nod) : List V := l.map ZFt
def ZaM (l : List ByteArray) : List V := l.map V.str
def ZHw (l : List Int) : List V := l.map (V.int .i64)
def at_ {α : Type} [Inhabited α] (l : List α) (i : Nat) : α := l.getD i default
theorem ZbU {α : Type} [Inhabited α] {l : List α} {i : Nat} (h : i < l.length) : at_ l i = l[i] := by
 simp [at_, List.getD_eq_getElem?_getD, List.getElem?_eq_getElem h]
theorem Zft {α : Type} [Inhabited α] {l : List α} {i : Nat} (h : i < l.length) : at_ l i ∈ l := by rw [ZbU h]; exact List.getElem_mem h
theorem ZbC (l : List Ent) : (ZbG l).length = l.length := by simp [ZbG]
theorem ZbD (l : List Nod) : (nodsV l).length = l.length := by simp [nodsV]
theorem Zbl (l : List ByteArray) : (ZaM l).length = l.length := by simp [ZaM]
theorem ZOl (l : List Int) : (ZHw l).length = l.length := by simp [ZHw]
theorem ZbZ {l : List Ent} {i : Nat} (h : i < l.length) : nth (ZbG l) i = some (ZFu (at_ l i)) := by rw [ZbG, Zei, Zfb h, ZbU h]; rfl
theorem Za9 {l : List Nod} {i : Nat} (h : i < l.length) : nth (nodsV l) i = some (ZFt (at_ l i)) := by rw [nodsV, Zei, Zfb h, ZbU h]; rfl
theorem ZcA {l : List ByteArray} {i : Nat} (h : i < l.length) : nth (ZaM l) i = some (.str (at_ l i)) := by rw [ZaM, Zei, Zfb h, ZbU h]; rfl
theorem ZOq {l : List Int} {i : Nat} (h : i < l.length) : nth (ZHw l) i = some (.int .i64 (at_ l i)) := by rw [ZHw, Zei, Zfb h, ZbU h]; rfl
variable {R : Type}
theorem ZCA (e : Ent) (k : ByteArray → Int → Option R) : Zcc (ZFu e) k = k e.1 e.2 := rfl
theorem ZcI (e : Ent) (k : ByteArray → Int → Option R) : Za3 (ZFu e) k = k e.1 e.2 := rfl
theorem ZCH (n : Nod) (k : Int → Int → Int → Int → Int → ByteArray → List V → Fl → Option R) : Zcm (ZFt n) k = k n.kind n.mode n.uid n.gid n.time n.data (ZbG n.es) .sh := rfl
theorem Zbw (n : Nod) (k : Int → Int → Int → Int → Int → ByteArray → List V → Fl → Option R) : Zax (ZFt n) k = k n.kind n.mode n.uid n.gid n.time n.data (ZbG n.es) .sh := rfl
theorem Zag (v : V) (k : V → Option R) : Zbu (some v) k = k v := rfl
theorem Zcv (b : ByteArray) (k : ByteArray → Option R) : Zbd (.str b) k = k b := rfl
theorem Ze3 (n : Int) (k : Int → Option R) : asInt .i64 (.int .i64 n) k = k n := rfl
theorem Zkw (b : Bool) (k : Bool → Option R) : asBool (.bool b) k = k b := rfl
def Zbr (g : Nat → Nat) : Nat → Nat
 | 0 => 0
 | n + 1 => Zbr g n + g n
theorem ZeI (g : Nat → Nat) : ∀ {a b : Nat}, a ≤ b → Zbr g a ≤ Zbr g b := by
 intro a b h
 induction b with
 | zero =>
  obtain rfl : a = 0 := by omega
  exact Nat.le_refl _
 | succ b ih =>
  rcases Nat.lt_or_ge a (b + 1) with h2 | h2
  ·exact Nat.le_trans (ih (by omega)) (Nat.le_add_right _ _)
  ·obtain rfl : a = b + 1 := by omega
   exact Nat.le_refl _
theorem Znp (g : Nat → Nat) {i n : Nat} (h : i < n) : g i ≤ Zbr g n := Nat.le_trans (Nat.le_add_left _ _) (ZeI g (a := i + 1) h)
def Zjf (l : List Ent) : Nat := l.length + Zbr (fun i => (at_ l i).1.size) l.length
def Zgv (n : Nod) : Nat := n.data.size + Zjf n.es
def ZJn (l : List Nod) : Nat := l.length + Zbr (fun i => Zgv (at_ l i)) l.length
def ZL4 (n : Nod) : Prop := n.data.size ≤ 9223372036854775807 ∧ n.es.length ≤ 9223372036854775807 ∧ ∀ i, i < n.es.length → (at_ n.es i).1.size ≤ 9223372036854775807
def FsOk (l : List Nod) : Prop := l.length ≤ 9223372036854775807 ∧ ∀ i, i < l.length → ZL4 (at_ l i)
def left (x : Int) (n : Nat) : Int := if (n : Int) ≤ x then x - n else -1
theorem ZiT {x : Int} {n : Nat} (h : (n : Int) ≤ x) : left x n = x - n := if_pos h
theorem ZeO {x : Int} {n : Nat} (h : ¬ (n : Int) ≤ x) : left x n = -1 := if_neg h
variable (N : Nat)
theorem ZDu (w : ByteArray) (n x : Int) (hw : w.size ≤ 9223372036854775807) (h0 : 0 ≤ x) (h1 : x ≤ 1048576) (k : Int → Option R) : ZGS N w n x k = k (left x w.size) := by
 rw [ZwD]
 unfold ZqG left
 rw [Zbf (by omega) (by omega)]
 by_cases h : (w.size : Int) ≤ x
 ·rw [decide_eq_false (by omega), if_pos h]
 ·rw [decide_eq_true (by omega), if_neg h]
theorem ZzR {l : List Ent} (hl : l.length ≤ 9223372036854775807) (hz : ∀ i, i < l.length → (at_ l i).1.size ≤ 9223372036854775807) (hN : 1048576 < N) (f : Fl) (x : Int) (h0 : 0 ≤ x) (h1 : x ≤ 1048576) (k : Int → Option R) :
  ZGa N (ZbG l) f x k = k (left x (Zjf l)) := by
 rw [ZvZ]
 unfold ZpN
 rw [ZbC, Zbf (by omega) (by omega)]
 by_cases h : (l.length : Int) ≤ x
 ·rw [decide_eq_false (by omega)]
  let g := fun i => (at_ l i).1.size
  have ge : ∀ i, Zbr g (i + 1) = Zbr g i + (at_ l i).1.size := fun i => rfl
  have e0 : x - (l.length : Int) = x - l.length - (Zbr g 0 : Nat) := by simp [Zbr]
  show Zfe N (ZbG l) f (fun _ => k (-1)) (fun x => k x) N (x - l.length) 0 = _
  rw [e0]
  refine (ZcC (l := fun n i => Zfe N (ZbG l) f (fun _ => k (-1)) (fun x => k x) n (x - l.length - Zbr g i) (i : Int)) (len := l.length)
   (p := fun i => decide (0 ≤ x - l.length - Zbr g (i + 1))) (k0 := k (-1)) (k1 := k (x - l.length - Zbr g l.length)) ?_ ?_ (show l.length < N by omega)).trans ?_
  ·intro n i hi hq
   have hn : 0 ≤ x - l.length - Zbr g i := by
    cases i with
    | zero => simp only [Zbr]; omega
    | succ i => exact of_decide_eq_true (hq i (by omega))
   simp only [Zfe, Zdl, ZbC, Zbh hi, Int.natCast_nonneg, if_true, Int.toNat_natCast, ZbZ hi, Zag, ZCA]
   rw [ZDu N _ _ _ (hz i hi) hn (by omega)]
   simp only [ge]
   by_cases h3 : ((at_ l i).1.size : Int) ≤ x - l.length - Zbr g i
   ·rw [ZiT h3, decide_eq_true (p := 0 ≤ _) (by omega), decide_eq_false (by omega), ZaH (i := i) (by omega)]
    simp only [Int.natCast_add, Int.sub_sub, Int.add_assoc, if_true]
   ·rw [ZeO h3, decide_eq_false (p := 0 ≤ _) (by omega)]
    simp
  ·intro _ n
   simp only [Zfe, Zdl, ZbC, Int.lt_irrefl, decide_false]
  ·have hall : (List.range' 0 l.length).all (fun i => decide (0 ≤ x - l.length - Zbr g (i + 1))) = decide (0 ≤ x - l.length - Zbr g l.length) := by
    rw [Bool.eq_iff_iff, Zbp]
    constructor
    ·intro hq
     rcases Nat.eq_zero_or_pos l.length with hz0 | hz0
     ·have e1 : Zbr g l.length = 0 := by rw [hz0]; rfl
      rw [e1]
      exact decide_eq_true (by omega)
     ·obtain ⟨m, hm⟩ : ∃ m, l.length = m + 1 := ⟨l.length - 1, by omega⟩
      have := hq m (by omega)
      rwa [← hm] at this
    ·intro hq i hi
     have := of_decide_eq_true hq
     have := ZeI g (a := i + 1) (b := l.length) (by omega)
     exact decide_eq_true (by omega)
   rw [hall]
   have e : Zjf l = l.length + Zbr g l.length := rfl
   simp only [left, e]
   by_cases h4 : 0 ≤ x - l.length - Zbr g l.length
   ·rw [decide_eq_true h4, if_pos rfl, if_pos (by omega)]
    simp only [Int.natCast_add, Int.sub_sub]
   ·rw [decide_eq_false h4, if_neg (by simp), if_neg (by omega)]
 ·rw [decide_eq_true (by omega)]
  rw [ZeO]
  unfold Zjf
  omega
theorem ZGm {n : Nod} (hn : ZL4 n) (hN : 1048576 < N) (f : Fl) (x : Int) (h0 : 0 ≤ x) (h1 : x ≤ 1048576) (k : Int → Option R) :
  ZFY N n.kind n.mode n.uid n.gid n.time n.data (ZbG n.es) f x k = k (left x (Zgv n)) := by
 rw [Zw2]
 unfold Zq7 Zgv
 have := hn.1
 rw [Zbf (by omega) (by omega)]
 by_cases h : (n.data.size : Int) ≤ x
 ·rw [decide_eq_false (by omega)]
  simp only
  rw [ZzR N hn.2.1 hn.2.2 hN _ _ (by omega) (by omega)]
  by_cases h2 : (Zjf n.es : Int) ≤ x - n.data.size
  ·rw [ZiT h2, ZiT (by omega), decide_eq_false (by omega)]
   simp only [Int.natCast_add, Int.sub_sub]
  ·rw [ZeO h2, ZeO (by omega)]
   rfl
 ·rw [decide_eq_true (by omega), ZeO (by omega)]
theorem ZDM {l : List Nod} (hl : FsOk l) (hN : 1048576 < N) (f : Fl) (x : Int) (h0 : 0 ≤ x) (h1 : x ≤ 1048576) (k : Int → Option R) :
  ZFN N (nodsV l) f x k = k (left x (ZJn l)) := by
 rw [Zvy]
 unfold ZoC
 have hll := hl.1
 rw [ZbD, Zbf (by omega) (by omega)]
 by_cases h : (l.length : Int) ≤ x
 ·rw [decide_eq_false (by omega)]
  let g := fun i => Zgv (at_ l i)
  have ge : ∀ i, Zbr g (i + 1) = Zbr g i + Zgv (at_ l i) := fun i => rfl
  have e0 : x - (l.length : Int) = x - l.length - (Zbr g 0 : Nat) := by simp [Zbr]
  show ZeY N (nodsV l) f (fun _ => k (-1)) (fun x => k x) N (x - l.length) 0 = _
  rw [e0]
  refine (ZcC (l := fun n i => ZeY N (nodsV l) f (fun _ => k (-1)) (fun x => k x) n (x - l.length - Zbr g i) (i : Int)) (len := l.length)
   (p := fun i => decide (0 ≤ x - l.length - Zbr g (i + 1))) (k0 := k (-1)) (k1 := k (x - l.length - Zbr g l.length)) ?_ ?_ (show l.length < N by omega)).trans ?_
  ·intro n i hi hq
   have hn : 0 ≤ x - l.length - Zbr g i := by
    cases i with
    | zero => simp only [Zbr]; omega
    | succ i => exact of_decide_eq_true (hq i (by omega))
   simp only [ZeY, ZdB, ZbD, Zbh hi, Int.natCast_nonneg, if_true, Int.toNat_natCast, Za9 hi, Zag, ZCH]
   rw [ZGm N (hl.2 i hi) hN _ _ hn (by omega)]
   simp only [ge]
   by_cases h3 : (Zgv (at_ l i) : Int) ≤ x - l.length - Zbr g i
   ·rw [ZiT h3, decide_eq_true (p := 0 ≤ _) (by omega), decide_eq_false (by omega), ZaH (i := i) (by omega)]
    simp only [Int.natCast_add, Int.sub_sub, Int.add_assoc, if_true]
   ·rw [ZeO h3, decide_eq_false (p := 0 ≤ _) (by omega)]
    simp
  ·intro _ n
   simp only [ZeY, ZdB, ZbD, Int.lt_irrefl, decide_false]
  ·have hall : (List.range' 0 l.length).all (fun i => decide (0 ≤ x - l.length - Zbr g (i + 1))) = decide (0 ≤ x - l.length - Zbr g l.length) := by
    rw [Bool.eq_iff_iff, Zbp]
    constructor
    ·intro hq
     rcases Nat.eq_zero_or_pos l.length with hz0 | hz0
     ·have e1 : Zbr g l.length = 0 := by rw [hz0]; rfl
      rw [e1]
      exact decide_eq_true (by omega)
     ·obtain ⟨m, hm⟩ : ∃ m, l.length = m + 1 := ⟨l.length - 1, by omega⟩
      have := hq m (by omega)
      rwa [← hm] at this
    ·intro hq i hi
     have := of_decide_eq_true hq
     have := ZeI g (a := i + 1) (b := l.length) (by omega)
     exact decide_eq_true (by omega)
   rw [hall]
   have e : ZJn l = l.length + Zbr g l.length := rfl
   simp only [left, e]
   by_cases h4 : 0 ≤ x - l.length - Zbr g l.length
   ·rw [decide_eq_true h4, if_pos rfl, if_pos (by omega)]
    simp only [Int.natCast_add, Int.sub_sub]
   ·rw [decide_eq_false h4, if_neg (by simp), if_neg (by omega)]
 ·rw [decide_eq_true (by omega)]
  rw [ZeO]
  unfold ZJn
  omega
theorem ZNm {l : List Nod} (hl : FsOk l) (hN : 1048576 < N) (f : Fl) (room x : Int) (h0 : 0 ≤ x) (h1 : x ≤ 1048576) (k : Int → Option R) :
  ZH0 N (nodsV l) f room x k = k (left x (ZJn l)) := by
 rw [ZwP]
 unfold Zqe
 rw [ZDM N hl hN _ _ h0 h1]
 by_cases h : (ZJn l : Int) ≤ x
 ·rw [ZiT h, decide_eq_false (by omega)]
 ·rw [ZeO h]; rfl
structure Small (l : List Nod) : Prop where
 len : l.length ≤ 1048576
 data : ∀ i, i < l.length → (at_ l i).data.size ≤ 1048576
 es : ∀ i, i < l.length → (at_ l i).es.length ≤ 1048576
 sum : Zbr (fun i => (at_ l i).data.size) l.length ≤ 1048576
 ents : Zbr (fun i => (at_ l i).es.length) l.length ≤ 1048576
 name : ∀ i, i < l.length → ∀ j, j < (at_ l i).es.length → (at_ (at_ l i).es j).1.size ≤ 1048576
theorem Zey {g h : Nat → Nat} (hg : ∀ i, g i ≤ h i) : ∀ n, Zbr g n ≤ Zbr h n
 | 0 => Nat.le_refl _
 | n + 1 => Nat.add_le_add (Zey hg n) (hg n)
theorem Small.of {l : List Nod} (h : ZJn l ≤ 1048576) : Small l := by
 unfold ZJn at h
 have h1 : ∀ i, i < l.length → Zgv (at_ l i) ≤ 1048576 := fun i hi => Nat.le_trans (Znp (fun i => Zgv (at_ l i)) hi) (by omega)
 refine ⟨by omega, fun i hi => ?_, fun i hi => ?_, ?_, ?_, fun i hi j hj => ?_⟩
 ·have := h1 i hi; unfold Zgv at this; omega
 ·have := h1 i hi; unfold Zgv Zjf at this; omega
 ·have := Zey (g := fun i => (at_ l i).data.size) (h := fun i => Zgv (at_ l i)) (fun i => by simp only [Zgv]; omega) l.length
  omega
 ·have := Zey (g := fun i => (at_ l i).es.length) (h := fun i => Zgv (at_ l i)) (fun i => by simp only [Zgv, Zjf]; omega) l.length
  omega
 ·have := h1 i hi
  unfold Zgv Zjf at this
  have := Znp (fun j => (at_ (at_ l i).es j).1.size) hj
  omega
end Go.VM.VL
set_option linter.unusedSimpArgs false
set_option linter.unusedVariables false
namespace Go.VM.VL
def Zen (xs : List V) (z : V) (i : Nat) : List V := xs.take i ++ List.replicate (xs.length - i) z
theorem ZCo (xs : List V) (z : V) {i : Nat} (h : i ≤ xs.length) : (Zen xs z i).length = xs.length := by
 simp only [Zen, List.length_append, List.length_take, List.length_replicate]; omega
theorem Zg4 (xs : List V) (z : V) {i : Nat} (h : i < xs.length) : nth (Zen xs z i) i = some z := by
 rw [Zam, Zen, List.getElem?_append_right (by simp only [List.length_take]; omega)]
 rw [List.getElem?_replicate, if_pos (by simp; omega)]
theorem Zhm (xs : List V) (z v : V) {i : Nat} (h : i < xs.length) (hv : nth xs i = some v) : Za7 (Zen xs z i) i v = Zen xs z (i + 1) := by
 have hv' : xs[i]? = some v := by rw [← Zam]; exact hv
 rw [ZbB]
 apply List.ext_getElem?
 intro j
 rw [List.getElem?_set]
 have hlen := ZCo xs z (i := i) (by omega)
 have hT : (xs.take i).length = i := by simp; omega
 have hT2 : (xs.take (i + 1)).length = i + 1 := by simp; omega
 by_cases hij : i = j
 ·subst hij
  rw [if_pos rfl, if_pos (by omega)]
  unfold Zen
  rw [List.getElem?_append_left (by omega), List.getElem?_take_of_lt (by omega), hv']
 ·rw [if_neg hij]
  unfold Zen
  rcases Nat.lt_or_ge j i with h2 | h2
  ·rw [List.getElem?_append_left (by omega), List.getElem?_append_left (by omega), List.getElem?_take_of_lt (by omega), List.getElem?_take_of_lt (by omega)]
  ·rw [List.getElem?_append_right (by omega), List.getElem?_append_right (by omega), List.getElem?_replicate, List.getElem?_replicate, hT, hT2]
   by_cases h3 : j - i < xs.length - i
   ·rw [if_pos h3, if_pos (by omega)]
   ·rw [if_neg h3, if_neg (by omega)]
theorem Zix (xs : List V) (z : V) : Zen xs z 0 = List.replicate xs.length z := by simp [Zen]
theorem ZkD (xs : List V) (z : V) : Zen xs z xs.length = xs := by simp [Zen]
variable {R : Type} (N : Nat)
theorem ZLh (s : S) (e : Ent) : Zbi false s 11 (ZFu e) = some (ZFu e) := rfl
theorem ZLi (s : S) (n : Nod) : Zbi false s 11 (ZFt n) = some (ZFt n) := rfl
theorem Zzf (l : List Ent) : (ZbG l).all V.plain = true := by
 rw [List.all_eq_true]; intro v hv
 obtain ⟨e, _, rfl⟩ := List.mem_map.1 hv
 rfl
theorem ZAO (l : List Nod) : (nodsV l).all V.plain = true := by
 rw [List.all_eq_true]; intro v hv
 obtain ⟨e, _, rfl⟩ := List.mem_map.1 hv
 rfl
theorem ZFb (w : ByteArray) (n : Int) (k : ByteArray → Int → Option R) : ZG7 N w n k = k w n := by rw [Zvu]; rfl
theorem ZzU {l : List Ent} (hl : l.length ≤ 1048576) (hN : 1048576 < N) (f : Fl) (z : V) (hp : ∀ e : Ent, ZbK z 0 [.str e.1, .int .i64 e.2] = some (ZFu e)) (k0 : List V → Option R) :
  Zfs N (ZbG l) f l.length k0 N 0 (List.replicate l.length z) = k0 (ZbG l) := by
 have e0 : List.replicate l.length z = Zen (ZbG l) z 0 := by rw [Zix, ZbC]
 rw [e0]
 refine ZbX (l := fun n i => Zfs N (ZbG l) f l.length k0 n (i : Int) (Zen (ZbG l) z i)) (len := l.length) (k1 := k0 (ZbG l)) ?_ ?_ (show l.length < N by omega)
 ·intro n i hi
  have hi' : i < (ZbG l).length := by rw [ZbC]; exact hi
  simp only [Zfs, Zc7, ZbC, Zbh hi, Int.natCast_nonneg, if_true, Int.toNat_natCast, ZbZ hi, Zag, ZCA, ZFb, Nat.zero_add, Zg4 _ _ hi', hp]
  rw [if_pos ⟨trivial, by omega⟩, ZaH (i := i) (by omega), ← Zhm (ZbG l) z _ hi' (ZbZ hi)]
 ·intro n
  simp only [Zfs, Zc7, ZbC, Int.lt_irrefl, decide_false]
  rw [show Zen (ZbG l) z l.length = ZbG l by rw [← ZbC l]; exact ZkD _ _]
theorem ZAz {l : List Ent} (hl : l.length ≤ 1048576) (hN : 1048576 < N) (f : Fl) (k : List V → Option R) : ZG2 N (ZbG l) f k = k (ZbG l) := by
 rw [Zwh]
 unfold Zox
 rw [ZbC, if_pos ⟨by omega, rfl, by omega⟩, Int.toNat_natCast]
 refine (ZzU N hl hN f _ (fun e => rfl) _).trans ?_
 simp only [List.drop_zero]
 rw [List.take_of_length_le (by rw [ZbC]; exact Nat.le_refl _),
   Zc6 fun v hv => by obtain ⟨e, _, rfl⟩ := List.mem_map.1 hv; rfl]
 simp only [Zzf, ZbC, Nat.zero_add, Nat.le_refl, decide_true, Zan]
theorem ZIY {n : Nod} (hl : n.es.length ≤ 1048576) (hN : 1048576 < N) (f : Fl) (k : Int → Int → Int → Int → Int → ByteArray → List V → Option R) :
  ZHq N n.kind n.mode n.uid n.gid n.time n.data (ZbG n.es) f k = k n.kind n.mode n.uid n.gid n.time n.data (ZbG n.es) := by
 rw [Zwr]; unfold Zri; rw [ZAz N hl hN]
theorem ZD3 {l : List Nod} (hl : Small l) (hN : 1048576 < N) (f : Fl) (z : V) (hp : ∀ n : Nod, ZbK z 0 [.int .i64 n.kind, .int .i64 n.mode, .int .i64 n.uid, .int .i64 n.gid, .int .i64 n.time, .str n.data, .list 2 (ZbG n.es) .sh] = some (ZFt n)) (k0 : List V → Option R) :
  Zfz N (nodsV l) f l.length k0 N 0 (List.replicate l.length z) = k0 (nodsV l) := by
 have hll := hl.len
 have e0 : List.replicate l.length z = Zen (nodsV l) z 0 := by rw [Zix, ZbD]
 rw [e0]
 refine ZbX (l := fun n i => Zfz N (nodsV l) f l.length k0 n (i : Int) (Zen (nodsV l) z i)) (len := l.length) (k1 := k0 (nodsV l)) ?_ ?_ (show l.length < N by omega)
 ·intro n i hi
  have hi' : i < (nodsV l).length := by rw [ZbD]; exact hi
  simp only [Zfz, Zde, ZbD, Zbh hi, Int.natCast_nonneg, if_true, Int.toNat_natCast, Za9 hi, Zag, ZCH, ZIY N (hl.es i hi) hN, Nat.zero_add, Zg4 _ _ hi', hp]
  rw [if_pos ⟨trivial, by omega⟩, ZaH (i := i) (by omega), ← Zhm (nodsV l) z _ hi' (Za9 hi)]
 ·intro n
  simp only [Zfz, Zde, ZbD, Int.lt_irrefl, decide_false]
  rw [show Zen (nodsV l) z l.length = nodsV l by rw [← ZbD l]; exact ZkD _ _]
theorem ZCI {l : List Nod} (hl : Small l) (hN : 1048576 < N) (f : Fl) (k : List V → Option R) : ZGQ N (nodsV l) f k = k (nodsV l) := by
 rw [ZwT]
 unfold Zqw
 have hll := hl.len
 rw [ZbD, if_pos ⟨by omega, rfl, by omega⟩, Int.toNat_natCast]
 refine (ZD3 N hl hN f _ (fun n => rfl) _).trans ?_
 simp only [List.drop_zero]
 rw [List.take_of_length_le (by rw [ZbD]; exact Nat.le_refl _),
   Zc6 fun v hv => by obtain ⟨e, _, rfl⟩ := List.mem_map.1 hv; rfl]
 simp only [ZAO, ZbD, Nat.zero_add, Nat.le_refl, decide_true, Zan]
theorem ZB1 {l : List Nod} (hl : Small l) (hN : 1048576 < N) (f : Fl) (room : Int) (k : List V → Int → Option R) : ZAQ N (nodsV l) f room k = k (nodsV l) room := by
 rw [Zyd]; unfold ZpQ; rw [ZCI N hl hN]
theorem ZF1 (a b : Int) (k : Int → Int → Option R) : ZDY N a b k = k a b := by rw [ZxZ]; rfl
theorem ZD2 (w : ByteArray) (n : Int) (k : Bool → Option R) : ZFQ N w n w n k = k true := by
 rw [Zws]; unfold ZpS; simp
theorem ZyY {l : List Ent} (hl : l.length ≤ 1048576) (hN : 1048576 < N) (f g : Fl) (k : Bool → Option R) : ZH9 N (ZbG l) f (ZbG l) g k = k true := by
 rw [ZvR]
 unfold Zqd
 simp only [bne_self_eq_false]
 refine ZbX (l := fun n i => Zgs N (ZbG l) f (ZbG l) g (fun _ => k false) (fun _ => k true) n (i : Int)) (len := l.length) (k1 := k true) ?_ ?_ (show l.length < N by omega)
 ·intro n i hi
  simp only [Zgs, Zc5, ZbC, Zbh hi, Int.natCast_nonneg, if_true, Int.toNat_natCast, ZbZ hi, Zag, ZcI, ZD2, Bool.not_true]
  rw [ZaH (i := i) (by omega)]
 ·intro n
  simp only [Zgs, Zc5, ZbC, Int.lt_irrefl, decide_false]
theorem ZHn {n : Nod} (hl : n.es.length ≤ 1048576) (hN : 1048576 < N) (f g : Fl) (k : Bool → Option R) :
  ZFO N n.kind n.mode n.uid n.gid n.time n.data (ZbG n.es) f n.kind n.mode n.uid n.gid n.time n.data (ZbG n.es) g k = k true := by
 rw [Zwj]; unfold Zrf; simp only [bne_self_eq_false, beq_self_eq_true, Bool.not_true, ZyY N hl hN]
theorem ZCk {l : List Nod} (hl : Small l) (hN : 1048576 < N) (f g : Fl) (k : Bool → Option R) : ZFF N (nodsV l) f (nodsV l) g k = k true := by
 rw [Zvx]
 unfold ZrF
 have hll := hl.len
 simp only [bne_self_eq_false]
 refine ZbX (l := fun n i => Zgq N (nodsV l) f (nodsV l) g (fun _ => k false) (fun _ => k true) n (i : Int)) (len := l.length) (k1 := k true) ?_ ?_ (show l.length < N by omega)
 ·intro n i hi
  simp only [Zgq, ZdJ, ZbD, Zbh hi, Int.natCast_nonneg, if_true, Int.toNat_natCast, Za9 hi, Zag, Zbw, ZHn N (hl.es i hi) hN, Bool.not_true]
  rw [ZaH (i := i) (by omega)]
 ·intro n
  simp only [Zgq, ZdJ, ZbD, Int.lt_irrefl, decide_false]
theorem ZJe {l : List Nod} (hl : Small l) (hN : 1048576 < N) (f g : Fl) (room : Int) (k : Bool → Option R) : ZIQ N (nodsV l) f room (nodsV l) g room k = k true := by
 rw [Zxb]; unfold Zos; rw [ZCk N hl hN]; simp only [bne_self_eq_false, Bool.not_true]
end Go.VM.VL
set_option linter.unusedSimpArgs false
set_option linter.unusedVariables false
namespace Go.VM.VL
open Go
abbrev bl (w : ByteArray) : List UInt8 := w.data.toList
def ba (l : List UInt8) : ByteArray := ⟨⟨l⟩⟩
theorem ZI4 (w : ByteArray) : ba (bl w) = w := rfl
theorem ZiL (l : List UInt8) : bl (ba l) = l := rfl
theorem Zbo (w : ByteArray) : w.size = (bl w).length := Array.length_toList.symm
theorem Zli (w : ByteArray) (a b : Nat) : bl (ByteArray.extract w a b) = ((bl w).take b).drop a := by
 rw [bl, ByteArray.data_extract, Array.toList_extract, List.extract_eq_take_drop, List.drop_take]
theorem Zck (w : ByteArray) (a b : Nat) : ByteArray.extract w a b = ba (((bl w).take b).drop a) := by rw [← Zli]; rfl
variable {R : Type} (N : Nat)
theorem ZbH (w : ByteArray) {i : Nat} (h : i < (bl w).length) (k : Int → Option R) : ZbP w (i : Int) k = k ((at_ (bl w) i).toNat : Int) := by
 unfold ZbP
 rw [if_pos (by omega), Int.toNat_natCast]
 have e : w.data[i]? = some (bl w)[i] := by rw [← Array.getElem?_toList, List.getElem?_eq_getElem h]
 rw [e, ZbU h]
theorem ZAY (a b c : Int) (k : Bool → Option R) : ZiV N a b c k = k (inR a b c) := by
 rw [ZyE]
 unfold Zrg inR
 by_cases h : b ≤ a
 ·rw [decide_eq_true (show a ≥ b from h)]; simp
 ·rw [decide_eq_false (show ¬ a ≥ b from h)]; simp
theorem ZBd (a b c : Int) (k : Bool → Option R) : Zgl N a b c k = k (inR a b c) := by
 rw [Zw7]
 unfold Zq3 inR
 by_cases h : b ≤ a
 ·rw [decide_eq_true (show a ≥ b from h)]; simp
 ·rw [decide_eq_false (show ¬ a ≥ b from h)]; simp
def Zi6 (n : Int) : Bool := (!decide (n < 97) && !decide (n > 122)) || (!decide (n < 48) && !decide (n > 57)) || (n == 46) || (n == 95) || (n == 45)
def ZiE (w : ByteArray) : Bool := (List.range' 0 w.size).all fun i => Zi6 ((at_ (bl w) i).toNat : Int)
def Zep (w : ByteArray) : Bool := ZiE w && inR (w.size : Int) 1 8
def ZrO (w : ByteArray) : Bool := w.toList == (ByteArray.mk #[46]).toList
def Zd6 (w : ByteArray) : Bool := w.toList == (ByteArray.mk #[46, 46]).toList
def Zbx (w : ByteArray) : Bool := w.toList == (ByteArray.mk #[]).toList
def Zd5 (w : ByteArray) : Bool := Zep w && !ZrO w && !Zd6 w
theorem ZcG (w : ByteArray) : Zbx w = decide (w.size = 0) := by
 unfold Zbx
 rw [ByteArray.toList_eq, ByteArray.toList_eq, Zbo]
 cases h : bl w with
 | nil => rw [show w.data.toList = [] from h]; rfl
 | cons a l => rw [show w.data.toList = a :: l from h]; rfl
theorem ZKV {w : ByteArray} (hw : w.size ≤ 1048576) (hN : 1048576 < N) (k : Bool → Option R) : Zz1 N w k = k (Zd5 w) := by
 rw [Zwy]
 unfold Zov
 rw [ZBd]
 refine (ZcC (l := fun n i => Ze0 N w _ _ n (i : Int)) (len := w.size) (p := fun i => Zi6 ((at_ (bl w) i).toNat : Int)) (k0 := k false) (k1 := (match inR (w.size : Int) 1 8 with
  | true => (match (!(w.toList == (ByteArray.mk #[46]).toList)) with
   | true => k (!(w.toList == (ByteArray.mk #[46, 46]).toList))
   | false => k false)
  | false => k false)) ?_ ?_ (show w.size < N by omega)).trans ?_
 ·intro n i hi _
  simp only [Ze0, ZdE, Zbh hi]
  rw [ZbH w (by rw [← Zbo]; exact hi), ZaH (i := i) (by omega)]
  generalize Ze0 N w _ _ n ((i + 1 : Nat) : Int) = X
  generalize ((at_ (bl w) i).toNat : Int) = x
  unfold Zi6
  simp only [bne]
  generalize decide (x < 97) = a
  generalize decide (x > 122) = b
  generalize decide (x < 48) = c
  generalize decide (x > 57) = d
  generalize (x == 46) = e
  generalize (x == 95) = f
  generalize (x == 45) = g
  cases a <;> cases b <;> cases c <;> cases d <;> cases e <;> cases f <;> cases g <;> rfl
 ·intro _ n
  simp only [Ze0, ZdE, Int.lt_irrefl, decide_false]
  rfl
 ·show (if ZiE w = true then _ else _) = _
  unfold Zd5 Zep ZrO Zd6
  cases ZiE w <;> cases inR (w.size : Int) 1 8 <;> cases (w.toList == (ByteArray.mk #[46]).toList) <;> cases (w.toList == (ByteArray.mk #[46, 46]).toList) <;> rfl
theorem Zpb (x : Int) (k : Bool → Option R) : ZHa N x k = k (Zi6 x) := by
 rw [ZvU]
 unfold Zpi Zi6
 rw [show decide (x ≥ 97) = !decide (x < 97) by by_cases h : x < 97 <;> simp [h] <;> omega, show decide (x ≤ 122) = !decide (x > 122) by by_cases h : x > 122 <;> simp [h] <;> omega,
  show decide (x ≥ 48) = !decide (x < 48) by by_cases h : x < 48 <;> simp [h] <;> omega, show decide (x ≤ 57) = !decide (x > 57) by by_cases h : x > 57 <;> simp [h] <;> omega]
 generalize decide (x < 97) = a
 generalize decide (x > 122) = b
 generalize decide (x < 48) = c
 generalize decide (x > 57) = d
 generalize (x == 46) = e
 generalize (x == 95) = f
 generalize (x == 45) = g
 cases a <;> cases b <;> cases c <;> cases d <;> cases e <;> cases f <;> cases g <;> rfl
theorem ZAL {w : ByteArray} {i : Nat} (h : i < (bl w).length) : nth (ZcN w) i = some (.int .u8 ((at_ (bl w) i).toNat : Int)) := by
 rw [ZcN, Zei, Zfb h, ZbU h]; rfl
theorem ZzC (w : ByteArray) : (ZcN w).length = w.size := by rw [ZcN, List.length_map]; exact Array.length_toList
theorem ZIW (n : Int) (k : Int → Option R) : asInt .u8 (.int .u8 n) k = k n := rfl
def Zf9 (q : Nat → Bool) (len : Nat) : Int := match (List.range' 0 len).findSome? (fun i => if q i then some i else none) with | some i => (i : Int) | none => -1
theorem Zjg {q : Nat → Bool} {len : Nat} : decide (Zf9 q len ≥ 0) = !(List.range' 0 len).all (fun i => !q i) := by
 unfold Zf9
 cases h : (List.range' 0 len).findSome? (fun i => if q i then some i else none) with
 | none =>
  have h2 : (List.range' 0 len).all (fun i => !q i) = true := Zbp.2 fun i hi => by
   have := ZeA.1 h i hi
   cases hq : q i with
   | true => simp [hq] at this
   | false => rfl
  rw [h2]; rfl
 | some j =>
  have h2 : ¬ (List.range' 0 len).all (fun i => !q i) = true := fun h2 => by
   have h3 : (List.range' 0 len).findSome? (fun i => if q i then some i else none) = none := ZeA.2 fun i hi => by
    have := Zbp.1 h2 i hi
    cases hq : q i with
    | true => simp [hq] at this
    | false => rfl
   rw [h] at h3; cases h3
  rw [Bool.eq_false_iff.2 h2]
  simp
theorem Zw8 {w : ByteArray} (hw : w.size ≤ 1048576) (hN : 1048576 < N) (k : Bool → Option R) : ZDv N w k = k (Zep w) := by
 rw [Zx8]
 unfold ZpX
 rw [ZAY]
 have hc : ∀ K : Bool → Option R, ZFE N (ZcN w) .sh K = K (!ZiE w) := by
  intro K
  rw [ZvL]
  unfold Zoz
  rw [ZwA]
  unfold Zp1
  rw [ZzC]
  refine (Zb4 (β := Nat) (l := fun n i => Zge N (ZcN w) _ (w.size : Int) _ _ n (i : Int)) (len := w.size) (q := fun i => if !Zi6 ((at_ (bl w) i).toNat : Int) then some i else none) (kb := fun i => K (decide ((i : Int) ≥ 0))) (k1 := K (decide ((-1 : Int) ≥ 0))) ?_ ?_ (show w.size < N by omega)).trans ?_
  ·intro n i hi _
   have hi' : i < (bl w).length := by rw [← Zbo]; exact hi
   simp only [Zge, Zdd, Zbh hi, Int.natCast_nonneg, if_true, Int.toNat_natCast, ZAL hi', Zag, ZIW]
   rw [Zye]
   unfold Zqu
   rw [Zpb, ZaH (i := i) (by omega)]
   cases Zi6 ((at_ (bl w) i).toNat : Int) <;> rfl
  ·intro _ n
   simp only [Zge, Zdd, Int.lt_irrefl, decide_false]
  ·have := Zjg (q := fun i => !Zi6 ((at_ (bl w) i).toNat : Int)) (len := w.size)
   unfold Zf9 at this
   unfold ZiE
   simp only [Bool.not_not] at this
   rw [← this]
   generalize (List.range' 0 w.size).findSome? _ = o
   cases o <;> rfl
 simp only [hc]
 unfold Zep
 cases ZiE w <;> cases inR (w.size : Int) 1 8 <;> rfl
theorem ZlB {w : ByteArray} (hw : w.size ≤ 1048576) (hN : 1048576 < N) (k : Bool → Option R) : ZD4 N w k = k (Zd5 w) := by
 rw [Zxx]
 unfold ZqK
 rw [Zw8 N hw hN]
 rw [ZvE]
 unfold Zpp Zd5 ZrO Zd6
 cases Zep w <;> cases (w.toList == (ByteArray.mk #[46]).toList) <;> cases (w.toList == (ByteArray.mk #[46, 46]).toList) <;> rfl
end Go.VM.VL
set_option linter.unusedSimpArgs false
set_option linter.unusedVariables false
namespace Go.VM.VL
open Go
def Zbs (c : UInt8) : List UInt8 → List (List UInt8)
 | [] => [[]]
 | b :: l => if b = c then [] :: Zbs c l else match Zbs c l with
  | p :: ps => (b :: p) :: ps
  | [] => [[b]]
theorem ZdY (c : UInt8) : ∀ l, Zbs c l ≠ []
 | [] => by simp [Zbs]
 | b :: l => by
  unfold Zbs
  split
  ·simp
  ·split <;> simp
theorem ZdT (c : UInt8) : ∀ l, (Zbs c l).length = l.count c + 1
 | [] => rfl
 | b :: l => by
  have ih := ZdT c l
  unfold Zbs
  split
  ·rename_i h
   rw [List.length_cons, ih, h, List.count_cons_self]
  ·rename_i h
   rw [List.count_cons_of_ne h]
   cases h2 : Zbs c l with
   | nil => exact absurd h2 (ZdY c l)
   | cons p ps => rw [h2] at ih; exact ih
def ZH2 (x : List UInt8) : List (List UInt8) → List (List UInt8)
 | p :: ps => (x ++ p) :: ps
 | [] => [x]
theorem ZdR {c b : UInt8} (h : b = c) (l : List UInt8) : Zbs c (b :: l) = [] :: Zbs c l := by rw [Zbs, if_pos h]
theorem ZcE {c b : UInt8} (h : b ≠ c) (l : List UInt8) : Zbs c (b :: l) = ZH2 [b] (Zbs c l) := by
 conv => lhs; unfold Zbs
 rw [if_neg h]
 cases Zbs c l <;> rfl
theorem ZDU (x y : List UInt8) (ps : List (List UInt8)) (h : ps ≠ []) : ZH2 x (ZH2 y ps) = ZH2 (x ++ y) ps := by
 cases ps with
 | nil => exact absurd rfl h
 | cons p ps => simp [ZH2]
def ZfN (c : UInt8) (l : List UInt8) : Nat → List (List UInt8) × Nat
 | 0 => ([], 0)
 | i + 1 => if at_ l i = c then ((ZfN c l i).1 ++ [(l.take i).drop (ZfN c l i).2], i + 1) else ZfN c l i
theorem Zko (c : UInt8) (l : List UInt8) : ∀ i, (ZfN c l i).2 ≤ i ∧ (ZfN c l i).1.length ≤ i
 | 0 => ⟨Nat.le_refl _, Nat.le_refl _⟩
 | i + 1 => by
  have := Zko c l i
  unfold ZfN
  split
  ·simp; omega
  ·omega
theorem Zxh (c : UInt8) (l : List UInt8) : ∀ i, i ≤ l.length → (ZfN c l i).1 ++ ZH2 ((l.take i).drop (ZfN c l i).2) (Zbs c (l.drop i)) = Zbs c l
 | 0, _ => by
  simp only [ZfN, List.drop_zero, List.take_zero, List.nil_append]
  cases h : Zbs c l with
  | nil => exact absurd h (ZdY c l)
  | cons p ps => rfl
 | i + 1, hi => by
  have ih := Zxh c l i (by omega)
  have hlt : i < l.length := by omega
  have hle := (Zko c l i).1
  rw [List.drop_eq_getElem_cons hlt] at ih
  unfold ZfN
  by_cases h : at_ l i = c
  ·rw [ZbU hlt] at h
   rw [ZdR h] at ih
   rw [ZbU hlt, if_pos h]
   simp only [List.append_assoc]
   rw [← ih]
   congr 1
   have e : (l.take (i + 1)).drop (i + 1) = [] := by
    apply List.drop_eq_nil_of_le
    simp only [List.length_take]; omega
   simp only [e, ZH2, List.append_nil, List.singleton_append]
   congr 1
   cases h2 : Zbs c (l.drop (i + 1)) with
   | nil => exact absurd h2 (ZdY c _)
   | cons p ps => rfl
  ·rw [ZbU hlt] at h
   rw [ZcE h, ZDU _ _ _ (ZdY c _)] at ih
   rw [ZbU hlt, if_neg h, ← ih]
   congr 2
   rw [List.take_succ_eq_append_getElem hlt, List.drop_append_of_le_length (by simp only [List.length_take]; omega)]
theorem ZEB (c : UInt8) (l : List UInt8) : (ZfN c l l.length).1 ++ [l.drop (ZfN c l l.length).2] = Zbs c l := by
 have := Zxh c l l.length (Nat.le_refl _)
 simpa [Zbs, ZH2] using this
def Zby (w : ByteArray) : List ByteArray := (Zbs 47 (bl w)).map ba
def ZbJ (w : ByteArray) : List ByteArray := (Zby w).filter fun p => !Zbx p
theorem Zi1 (w : ByteArray) : (Zby w).length ≤ w.size + 1 := by
 unfold Zby
 rw [List.length_map, ZdT, Zbo]
 have := List.count_le_length (a := (47 : UInt8)) (l := bl w)
 omega
theorem Zcr (w : ByteArray) : (ZbJ w).length ≤ w.size + 1 := Nat.le_trans (List.length_filter_le _ _) (Zi1 w)
theorem ZfR (c : UInt8) : ∀ l, ∀ p ∈ Zbs c l, p.length ≤ l.length
 | [], p, h => by simp [Zbs] at h; subst h; exact Nat.le_refl _
 | b :: l, p, h => by
  have ih := ZfR c l
  by_cases hb : b = c
  ·rw [ZdR hb] at h
   rcases List.mem_cons.1 h with rfl | h
   ·simp
   ·have := ih p h; rw [List.length_cons]; omega
  ·rw [ZcE hb] at h
   cases h2 : Zbs c l with
   | nil => exact absurd h2 (ZdY c l)
   | cons q qs =>
    rw [h2] at h ih
    rcases List.mem_cons.1 h with rfl | h
    ·have := ih q (by simp)
     simp; omega
    ·have := ih p (by simp [h]); rw [List.length_cons]; omega
theorem ZkN {w p : ByteArray} (h : p ∈ ZbJ w) : p.size ≤ w.size := by
 obtain ⟨q, hq, rfl⟩ := List.mem_map.1 (List.mem_filter.1 h).1
 rw [Zbo, Zbo, ZiL]
 exact ZfR 47 _ _ hq
variable {R : Type} (N : Nat)
theorem ZuI {b c : UInt8} : ((b.toNat : Int) == (c.toNat : Int)) = decide (b = c) := by
 by_cases h : b = c
 ·subst h; simp
 ·rw [decide_eq_false h]
  apply beq_false_of_ne
  intro h2
  exact h (UInt8.toNat_inj.1 (by omega))
theorem ZDy {w : ByteArray} (hw : w.size ≤ 1048576) (hN : 1048580 < N) (k : List V → Option R) : ZIx N w 47 k = k (ZaM (Zby w)) := by
 rw [Zv8]
 unfold Zoy
 refine ZbX (l := fun n i => Zf4 N w 47 _ n (ZaM ((ZfN 47 (bl w) i).1.map ba)) ((ZfN 47 (bl w) i).2 : Int) (i : Int)) (len := w.size) (k1 := k (ZaM (Zby w))) ?_ ?_ (show w.size < N by omega)
 ·intro n i hi
  have hi' : i < (bl w).length := by rw [← Zbo]; exact hi
  have hle := Zko 47 (bl w) i
  simp only [Zf4, Zdb, Zbh hi, ZbH w hi']
  rw [show (47 : Int) = ((47 : UInt8).toNat : Int) from rfl, ZuI, ZaH (i := i) (by omega)]
  by_cases h : at_ (bl w) i = 47
  ·rw [decide_eq_true h]
   simp only [ZfN, if_pos h]
   rw [if_pos ⟨by omega, by omega⟩, if_pos ⟨by omega, by omega⟩, if_pos (by rw [Zbl, List.length_map]; omega), Zck]
   simp only [Int.toNat_natCast, ZaM, List.map_append, List.map_cons, List.map_nil]
  ·rw [decide_eq_false h]
   simp only [ZfN, if_neg h]
 ·intro n
  have hle := Zko 47 (bl w) w.size
  simp only [Zf4, Zdb, Int.lt_irrefl, decide_false]
  rw [if_pos ⟨by omega, by omega⟩, if_pos (by rw [Zbl, List.length_map]; omega), Zck]
  have := ZEB 47 (bl w)
  rw [← Zbo] at this
  unfold Zby
  rw [← this, List.take_of_length_le (by rw [Zbo]; exact Nat.le_refl _)]
  simp only [Int.toNat_natCast, ZaM, List.map_append, List.map_cons, List.map_nil]
theorem ZdW {α : Type} [Inhabited α] (p : α → Bool) (l : List α) {i : Nat} (h : i < l.length) : (l.take (i + 1)).filter p = (l.take i).filter p ++ if p (at_ l i) then [at_ l i] else [] := by
 rw [List.take_succ_eq_append_getElem h, List.filter_append, ZbU h]
 congr 1
 rw [List.filter_cons]
 split <;> rfl
theorem Zfm {w : ByteArray} (hw : w.size ≤ 1048576) (hN : 1048580 < N) (k : List V → Option R) : Zlh N w k = k (ZaM (ZbJ w)) := by
 rw [ZxF]
 unfold Zpc
 rw [ZDy N hw hN, Zbl]
 have hl := Zi1 w
 refine ZbX (l := fun n i => Zf3 N (ZaM (Zby w)) ((Zby w).length : Int) _ n (ZaM (((Zby w).take i).filter fun p => !Zbx p)) (i : Int)) (len := (Zby w).length) (k1 := k (ZaM (ZbJ w))) ?_ ?_ (show (Zby w).length < N by omega)
 ·intro n i hi
  simp only [Zf3, Zc1, Zbh hi, Int.natCast_nonneg, if_true, Int.toNat_natCast, ZcA hi, Zag, Zcv]
  rw [ZaH (i := i) (by omega), ZdW _ _ hi]
  have hlf : (((Zby w).take i).filter fun p => !Zbx p).length ≤ i := Nat.le_trans (List.length_filter_le _ _) (by rw [List.length_take]; omega)
  cases h : Zbx (at_ (Zby w) i) with
  | true =>
   rw [show ((at_ (Zby w) i).toList == (ByteArray.mk #[]).toList) = true from h]
   simp
  | false =>
   rw [show ((at_ (Zby w) i).toList == (ByteArray.mk #[]).toList) = false from h, if_pos (by rw [Zbl]; omega)]
   simp [ZaM]
 ·intro n
  simp only [Zf3, Zc1, Int.lt_irrefl, decide_false]
  rw [List.take_of_length_le (Nat.le_refl _)]
  rfl
def ZfY (w : ByteArray) : Bool := (ZbJ w).all Zep && inR (w.size : Int) 1 60
theorem ZF3 {w : ByteArray} (h : ZrO w = true) : Zep w = true := by
 unfold ZrO at h
 rw [beq_iff_eq, ByteArray.toList_eq, ByteArray.toList_eq] at h
 have : w = ba [46] := by rw [← ZI4 w, show bl w = _ from h]
 subst this
 decide
theorem ZD9 {w : ByteArray} (h : Zd6 w = true) : Zep w = true := by
 unfold Zd6 at h
 rw [beq_iff_eq, ByteArray.toList_eq, ByteArray.toList_eq] at h
 have : w = ba [46, 46] := by rw [← ZI4 w, show bl w = _ from h]
 subst this
 decide
theorem Zv3 {w : ByteArray} (hw : w.size ≤ 1048576) (hN : 1048580 < N) (k : Bool → Option R) : ZBD N w k = k (ZfY w) := by
 rw [Zwa]
 unfold Zp4
 rw [Zfm N hw hN, Zbl]
 have hl := Zcr w
 refine (ZcC (l := fun n i => ZgD N w (ZaM (ZbJ w)) ((ZbJ w).length : Int) (fun _ => k false) _ n (i : Int)) (len := (ZbJ w).length) (p := fun i => Zep (at_ (ZbJ w) i)) (k0 := k false) (k1 := k (inR (w.size : Int) 1 60)) ?_ ?_ (show (ZbJ w).length < N by omega)).trans ?_
 ·intro n i hi _
  have hsz : (at_ (ZbJ w) i).size ≤ 1048576 := Nat.le_trans (ZkN (Zft hi)) hw
  simp only [ZgD, Zdq, Zbh hi, Int.natCast_nonneg, if_true, Int.toNat_natCast, ZcA hi, Zag, Zcv, ZKV N hsz (by omega : 1048576 < N)]
  rw [ZaH (i := i) (by omega)]
  have h1 := @ZF3 (at_ (ZbJ w) i)
  have h2 := @ZD9 (at_ (ZbJ w) i)
  unfold Zd5
  unfold ZrO Zd6 at *
  generalize ((at_ (ZbJ w) i).toList == (ByteArray.mk #[46]).toList) = b at *
  generalize ((at_ (ZbJ w) i).toList == (ByteArray.mk #[46, 46]).toList) = c at *
  generalize Zep (at_ (ZbJ w) i) = a at *
  cases a <;> cases b <;> cases c <;> first | rfl | exact absurd (h1 rfl) (by decide) | exact absurd (h2 rfl) (by decide)
 ·intro _ n
  simp only [ZgD, Zdq, Int.lt_irrefl, decide_false, ZBd]
 ·unfold ZfY
  have e : (List.range' 0 (ZbJ w).length).all (fun i => Zep (at_ (ZbJ w) i)) = (ZbJ w).all Zep := by
   rw [Bool.eq_iff_iff, Zbp, List.all_eq_true]
   exact ⟨fun h p hp => by
    obtain ⟨i, hi, rfl⟩ := List.getElem_of_mem hp
    rw [← ZbU hi]
    exact h i hi, fun h i hi => h _ (Zft hi)⟩
  rw [e]
  cases (ZbJ w).all Zep <;> rfl
theorem Zcw {w : ByteArray} (h : ZfY w = true) : 1 ≤ w.size ∧ w.size ≤ 60 := by
 unfold ZfY at h
 rw [Bool.and_eq_true, Zb3] at h
 omega
def ZcM (w : ByteArray) : Bool := ZfY w && (((at_ (bl w) 0).toNat : Int) == 47)
theorem ZpW {w : ByteArray} (hw : w.size ≤ 1048576) (hN : 1048580 < N) (k : Bool → Option R) : ZBF N w k = k (ZcM w) := by
 rw [ZwV]
 unfold ZqJ ZcM
 rw [Zv3 N hw hN]
 cases h : ZfY w with
 | false => rfl
 | true =>
  have := Zcw h
  simp only
  rw [show (0 : Int) = ((0 : Nat) : Int) from rfl, ZbH w (by rw [← Zbo]; omega)]
  rfl
end Go.VM.VL
set_option linter.unusedSimpArgs false
set_option linter.unusedVariables false
namespace Go.VM.VL
open Go
theorem ZeQ (c : UInt8) : ∀ (l : List UInt8) (m : Nat), Lib.indexByte l c = (m : Int) → m < l.length ∧ Zbs c l = l.take m :: Zbs c (l.drop (m + 1))
 | [], m, h => by simp [Lib.indexByte] at h
 | b :: l, m, h => by
  unfold Lib.indexByte at h
  by_cases hb : b = c
  ·rw [if_pos (by simp [hb])] at h
   obtain rfl : m = 0 := by omega
   exact ⟨by simp, by rw [ZdR hb]; rfl⟩
  ·rw [if_neg (by simp [hb])] at h
   have hge := Lib.indexByte_ge l c
   by_cases h1 : Lib.indexByte l c = -1
   ·rw [if_pos (by simp [h1])] at h; omega
   ·rw [if_neg (by simp [h1])] at h
    obtain ⟨m, rfl⟩ : ∃ k, m = k + 1 := ⟨m - 1, by omega⟩
    obtain ⟨h2, h3⟩ := ZeQ c l m (by omega)
    refine ⟨by rw [List.length_cons]; omega, ?_⟩
    rw [ZcE hb, h3]
    rfl
theorem ZiJ (c : UInt8) : ∀ (l : List UInt8), Lib.indexByte l c = -1 → Zbs c l = [l]
 | [], h => rfl
 | b :: l, h => by
  unfold Lib.indexByte at h
  by_cases hb : b = c
  ·rw [if_pos (by simp [hb])] at h; omega
  ·rw [if_neg (by simp [hb])] at h
   have hge := Lib.indexByte_ge l c
   by_cases h1 : Lib.indexByte l c = -1
   ·rw [ZcE hb, ZiJ c l h1]; rfl
   ·rw [if_neg (by simp [h1])] at h; omega
def Zdi (l : List UInt8) : Nat → List UInt8
 | 0 => l
 | i + 1 => (Zdi l i).drop ((Lib.indexByte (Zdi l i) 47).toNat + 1)
theorem ZwJ (l : List UInt8) : ∀ i, i ≤ l.count 47 → Zbs 47 (Zdi l i) = (Zbs 47 l).drop i ∧ (i < l.count 47 → ∃ m : Nat, Lib.indexByte (Zdi l i) 47 = m)
  ∧ (Zdi l i).length ≤ l.length := by
 have idx : ∀ (r : List UInt8), 2 ≤ (Zbs 47 r).length → ∃ m : Nat, Lib.indexByte r 47 = m := fun r h => by
  have := Lib.indexByte_ge r 47
  by_cases h1 : Lib.indexByte r 47 = -1
  ·rw [ZiJ 47 r h1] at h; simp at h
  ·exact ⟨(Lib.indexByte r 47).toNat, by omega⟩
 intro i
 induction i with
 | zero => exact fun _ => ⟨rfl, fun h => idx l (by rw [ZdT]; omega), Nat.le_refl _⟩
 | succ i ih =>
  intro hi
  obtain ⟨h1, h2, h3⟩ := ih (by omega)
  obtain ⟨m, hm⟩ := h2 (by omega)
  obtain ⟨h4, h5⟩ := ZeQ 47 _ m hm
  have e : Zbs 47 (Zdi l (i + 1)) = (Zbs 47 l).drop (i + 1) := by
   have : (Zbs 47 (Zdi l i)).drop 1 = Zbs 47 (Zdi l (i + 1)) := by
    rw [h5]
    show _ = Zbs 47 ((Zdi l i).drop ((Lib.indexByte (Zdi l i) 47).toNat + 1))
    rw [hm]; rfl
   rw [← this, h1, List.drop_drop]
  refine ⟨e, fun h => idx _ (by rw [e, List.length_drop, ZdT]; omega), ?_⟩
  show ((Zdi l i).drop _).length ≤ _
  rw [List.length_drop]; omega
variable {R : Type} (N : Nat)
def sl : ByteArray := ByteArray.mk #[47]
theorem ZK9 (w : ByteArray) (k : Int → Option R) : ZCQ N w (ByteArray.mk #[47]) k = k (Lib.indexByte (bl w) 47) := by
 rw [Zxn]
 unfold Zo2
 rw [ZwZ]
 unfold ZoT
 show (match ((ByteArray.mk #[47]).toList == w.toList) with | true => k 0 | false => _) = _
 cases h : ((ByteArray.mk #[47]).toList == w.toList) with
 | true =>
  rw [beq_iff_eq, ByteArray.toList_eq, ByteArray.toList_eq] at h
  show k 0 = k (Lib.indexByte w.data.toList 47)
  rw [← h]; rfl
 | false =>
  show ZEx N w _ _ = _
  rw [ZxB]
  unfold Zp7
  rw [ZvH]
  rfl
theorem ZKt (w : ByteArray) (k : Int → Option R) : ZDW N w (ByteArray.mk #[47]) k = k (((bl w).count 47 : Nat) : Int) := by
 rw [ZyF]
 unfold Zpe
 show ZIz N w _ _ = _
 rw [ZxK]
 rfl
theorem ZdS (l : List ByteArray) : Zbb (ZaM l) = true := by
 unfold Zbb
 rw [List.all_eq_true]
 intro v hv
 obtain ⟨s, _, rfl⟩ := List.mem_map.1 hv
 rfl
theorem Zxt (w : ByteArray) {i : Nat} (hi : i < (Zby w).length) : (Zbs 47 (bl w)).drop i = bl (at_ (Zby w) i) :: (Zbs 47 (bl w)).drop (i + 1) := by
 have hi' : i < (Zbs 47 (bl w)).length := by unfold Zby at hi; rwa [List.length_map] at hi
 rw [List.drop_eq_getElem_cons hi', ZbU hi]
 simp only [Zby, List.getElem_map, ZiL]
theorem ZKo {w : ByteArray} (hw : w.size ≤ 1048576) (hN : 1048580 < N) (k0 : List V → Option R) (k1 : Nat → List V → Option R) :
  ZIp N w (ByteArray.mk #[47]) k0 k1 = k1 (Zby w).length (ZaM (Zby w)) := by
 rw [Zxj]
 unfold Zpn
 rw [Zvt]
 unfold Zrx
 let c := (bl w).count 47
 have hc : c ≤ w.size := by rw [Zbo]; exact List.count_le_length
 have hL : (Zby w).length = c + 1 := by unfold Zby; rw [List.length_map, ZdT]
 rw [show ((ByteArray.mk #[47]).toList == (ByteArray.mk #[]).toList) = false by rw [ByteArray.toList_eq, ByteArray.toList_eq]; rfl]
 show ZDW N w (ByteArray.mk #[47]) _ = _
 rw [ZKt]
 show _ = k1 (Zby w).length (ZaM (Zby w))
 rw [Zbf (x := (w.size : Int) + 1) (by omega) (by omega), Zbf (x := (((bl w).count 47 : Nat) : Int) + 1) (by omega) (by omega)]
 have hif : (if (w.size : Int) + 1 < (((bl w).count 47 : Nat) : Int) + 1 then (w.size : Int) + 1 else (((bl w).count 47 : Nat) : Int) + 1) = ((c + 1 : Nat) : Int) := by
  rw [if_neg (by omega)]; rfl
 rw [hif, if_pos ⟨by omega, rfl, by omega⟩, Int.toNat_natCast, Zbf (x := ((c + 1 : Nat) : Int) - 1) (by omega) (by omega)]
 have hlim : ((c + 1 : Nat) : Int) - 1 = (c : Int) := by omega
 rw [hlim]
 let z : V := .str (ByteArray.mk #[])
 have hlen : (ZaM (Zby w)).length = c + 1 := by rw [Zbl, hL]
 rw [show List.replicate (c + 1) (V.str (ByteArray.mk #[])) = Zen (ZaM (Zby w)) z 0 by rw [Zix, hlen]]
 refine ZbX (l := fun n i => Zfv N (ByteArray.mk #[47]) 0 (c : Int) (c + 1) _ n (ba (Zdi (bl w) i)) (i : Int) (Zen (ZaM (Zby w)) z i)) (len := c) (k1 := k1 (Zby w).length (ZaM (Zby w))) ?_ ?_ (show c < N by omega)
 ·intro n i hi
  obtain ⟨h1, h2, h3⟩ := ZwJ (bl w) i (by omega)
  obtain ⟨m, hm⟩ := h2 hi
  obtain ⟨h4, h5⟩ := ZeQ 47 _ m hm
  have hi' : i < (Zby w).length := by omega
  rw [h1, Zxt w hi'] at h5
  have hp : bl (at_ (Zby w) i) = (Zdi (bl w) i).take m := (List.cons.inj h5).1
  have hsz : (ba (Zdi (bl w) i)).size = (Zdi (bl w) i).length := Zbo _
  rw [← Zbo] at h3
  simp only [Zfv, Zc0, Zbh hi, ZK9, ZiL, hm]
  rw [decide_eq_false (by omega)]
  simp only
  rw [show (m : Int) + 0 = m by omega, Zbf (x := (m : Int)) (by omega) (by omega), if_pos ⟨by omega, by omega⟩, if_pos ⟨by omega, by omega⟩]
  rw [show ((ByteArray.mk #[47]).size : Int) = 1 from rfl, ZaH (i := m) (by omega), ZaH (i := i) (by omega)]
  simp only [Int.toNat_natCast, Nat.zero_add, Zg4 (ZaM (Zby w)) z (by rw [hlen]; omega : i < _)]
  have hput : ∀ b, ZbK z 0 [.str b] = some (.str b) := fun b => rfl
  simp only [hput]
  rw [if_pos ⟨by omega, by omega⟩, Zck, Zck, ZiL, List.drop_zero, ← hp, ZI4, Zhm _ _ _ (by rw [hlen]; omega) (ZcA hi'),
   List.take_of_length_le (by rw [hsz]; exact Nat.le_refl _)]
  have hr : Zdi (bl w) (i + 1) = (Zdi (bl w) i).drop (m + 1) := by
   show (Zdi (bl w) i).drop ((Lib.indexByte (Zdi (bl w) i) 47).toNat + 1) = _
   rw [hm]; rfl
  rw [hr]
 ·intro n
  obtain ⟨h1, h2, h3⟩ := ZwJ (bl w) c (Nat.le_refl _)
  simp only [Zfv, Zc0, Int.lt_irrefl, decide_false]
  rw [if_pos ⟨by omega, by omega⟩]
  simp only [Int.toNat_natCast, Nat.zero_add, Zg4 (ZaM (Zby w)) z (by rw [hlen]; omega : c < _)]
  have hput : ∀ b, ZbK z 0 [.str b] = some (.str b) := fun b => rfl
  simp only [hput]
  have hlast : nth (ZaM (Zby w)) c = some (.str (ba (Zdi (bl w) c))) := by
   rw [ZcA (by omega)]
   rw [Zxt w (by omega), List.drop_eq_nil_of_le (by rw [ZdT]; exact Nat.le_refl _)] at h1
   have h6 : Zbs 47 (Zdi (bl w) c) = [Zdi (bl w) c] := by
    apply ZiJ
    have := Lib.indexByte_ge (Zdi (bl w) c) 47
    by_cases h7 : Lib.indexByte (Zdi (bl w) c) 47 = -1
    ·exact h7
    ·obtain ⟨m, hm⟩ : ∃ m : Nat, Lib.indexByte (Zdi (bl w) c) 47 = m := ⟨(Lib.indexByte (Zdi (bl w) c) 47).toNat, by omega⟩
     obtain ⟨_, h8⟩ := ZeQ 47 _ m hm
     rw [h1] at h8
     exact absurd (List.cons.inj h8).2.symm (ZdY 47 _)
   rw [h6] at h1
   rw [(List.cons.inj h1).1, ZI4]
  rw [Zhm _ _ _ (by rw [hlen]; omega) hlast, show Zen (ZaM (Zby w)) z (c + 1) = ZaM (Zby w) by rw [← hlen]; exact ZkD _ _,
   ZaH (i := c) (by omega), if_pos ⟨by omega, by omega⟩, ZdS, hL]
  rfl
def ZbW (L : List ByteArray) : List ByteArray := L.filter fun p => !Zbx p
def Ztz (L : List ByteArray) (j : Nat) : List ByteArray := ZbW (L.take j) ++ L.drop (ZbW (L.take j)).length
theorem Zjv (L : List ByteArray) (j : Nat) : (ZbW (L.take j)).length ≤ j := Nat.le_trans (List.length_filter_le _ _) (by rw [List.length_take]; omega)
theorem Zn0 {L : List ByteArray} {j : Nat} (h : j ≤ L.length) : (Ztz L j).length = L.length := by
 have := Zjv L j
 unfold Ztz
 rw [List.length_append, List.length_drop]; omega
theorem ZJA {L : List ByteArray} {j : Nat} (h : j < L.length) : nth (ZaM (Ztz L j)) j = some (.str (at_ L j)) := by
 have := Zjv L j
 rw [ZcA (by rw [Zn0 (by omega)]; exact h), ZbU (by rw [Zn0 (by omega)]; exact h), ZbU h]
 congr 2
 unfold Ztz
 rw [List.getElem_append_right (by omega), List.getElem_drop]
 congr 1
 omega
theorem ZHQ {L : List ByteArray} {j : Nat} (h : j < L.length) (hp : Zbx (at_ L j) = false) : Za7 (ZaM (Ztz L j)) (ZbW (L.take j)).length (.str (at_ L j)) = ZaM (Ztz L (j + 1)) := by
 have h2 := Zjv L j
 have e : ZbW (L.take (j + 1)) = ZbW (L.take j) ++ [at_ L j] := by
  unfold ZbW
  rw [ZdW _ _ h, hp]; rfl
 unfold ZaM
 rw [ZBX V.str, ZbB]
 congr 1
 unfold Ztz
 rw [e, List.set_append_right _ _ (Nat.le_refl _), Nat.sub_self, List.length_append, List.append_assoc]
 congr 1
 have hd : (ZbW (L.take j)).length < L.length := by omega
 rw [List.drop_eq_getElem_cons hd]
 rfl
theorem ZCT {L : List ByteArray} {j : Nat} (h : j < L.length) (hp : Zbx (at_ L j) = true) : Ztz L (j + 1) = Ztz L j ∧ (ZbW (L.take (j + 1))).length = (ZbW (L.take j)).length := by
 have e : ZbW (L.take (j + 1)) = ZbW (L.take j) := by
  unfold ZbW
  rw [ZdW _ _ h, hp]
  exact List.append_nil _
 exact ⟨by unfold Ztz; rw [e], by rw [e]⟩
theorem Zgx (v : Bool) (s : S) (L : List ByteArray) : Zbm (Zbi v s 11) (ZaM L) = some (ZaM L) :=
 Zc6 fun u hu => by obtain ⟨b, _, rfl⟩ := List.mem_map.1 hu; rfl
theorem Zlk (L : List ByteArray) : (ZaM L).all V.plain = true := by
 rw [List.all_eq_true]; intro u hu; obtain ⟨b, _, rfl⟩ := List.mem_map.1 hu; rfl
theorem ZD5 (L : List ByteArray) : (ZaM L).map V.lent = ZaM L := by
 unfold ZaM; rw [List.map_map]; rfl
theorem Zrz {L : List ByteArray} (hl : L.length ≤ 1048577) (hN : 1048580 < N) (f : Fl) (k : Int → Option R) :
  ZH4 N (ZaM L) f k = k (Zf9 (fun i => Zbx (at_ L i)) L.length) := by
 rw [ZxO]
 unfold Zp3
 rw [Zbl]
 refine (Zb4 (β := Nat) (l := fun n i => Zgg N (ZaM L) f (L.length : Int) _ _ n (i : Int)) (len := L.length) (q := fun i => if Zbx (at_ L i) then some i else none) (kb := fun i => k (i : Int)) (k1 := k (-1)) ?_ ?_ (show L.length < N by omega)).trans ?_
 ·intro n i hi _
  simp only [Zgg, Zdg, Zbh hi, Int.natCast_nonneg, if_true, Int.toNat_natCast, ZcA hi, Zag, Zcv]
  rw [ZnK]
  unfold Zlq
  rw [ZaH (i := i) (by omega), show ((at_ L i).toList == (ByteArray.mk #[]).toList) = Zbx (at_ L i) from rfl]
  cases Zbx (at_ L i) <;> rfl
 ·intro _ n
  simp only [Zgg, Zdg, Int.lt_irrefl, decide_false]
 ·unfold Zf9
  generalize (List.range' 0 L.length).findSome? _ = o
  cases o <;> rfl
theorem Zzs {q : Nat → Bool} {len i : Nat} (h : (List.range' 0 len).findSome? (fun i => if q i then some i else none) = some i) : i < len ∧ q i = true ∧ ∀ j, j < i → q j = false := by
 have : ∀ (d a : Nat), (List.range' a d).findSome? (fun i => if q i then some i else none) = some i → i < a + d ∧ a ≤ i ∧ q i = true ∧ ∀ j, a ≤ j → j < i → q j = false := by
  intro d
  induction d with
  | zero => intro a h; cases h
  | succ d ih =>
   intro a h
   rw [List.range'_succ, List.findSome?_cons] at h
   cases hq : q a with
   | true =>
    rw [hq] at h
    obtain rfl : a = i := by simpa using h
    exact ⟨by omega, Nat.le_refl _, hq, fun j h1 h2 => by omega⟩
   | false =>
    rw [hq] at h
    obtain ⟨h1, h2, h3, h4⟩ := ih (a + 1) h
    refine ⟨by omega, by omega, h3, fun j h5 h6 => ?_⟩
    rcases Nat.lt_or_ge a j with h7 | h7
    ·exact h4 j h7 h6
    ·obtain rfl : a = j := by omega
     exact hq
 obtain ⟨h1, _, h2, h3⟩ := this len 0 h
 exact ⟨by omega, h2, fun j hj => h3 j (Nat.zero_le _) hj⟩
theorem ZmZ {L : List ByteArray} (hl : L.length ≤ 1048577) (hN : 1048580 < N) (k : Nat → List V → Option R) :
  ∃ es : List V, ZG5 N L.length (ZaM L) k = k (ZbW L).length (ZaM (ZbW L) ++ es) ∧ Zbb (ZaM (ZbW L) ++ es) = true := by
 rw [Zvz]
 unfold ZpT
 simp only [List.drop_zero]
 rw [List.take_of_length_le (by rw [Zbl]; exact Nat.le_refl _)]
 simp only [Zgx]
 rw [ZD5, Zrz N hl hN, Zbl, Nat.zero_add]
 simp only [Nat.le_refl, decide_true, Zan]
 unfold Zf9
 cases h : (List.range' 0 L.length).findSome? (fun i => if Zbx (at_ L i) = true then some i else none) with
 | none =>
  have h2 := ZeA.1 h
  have e : ZbW L = L := by
   unfold ZbW
   rw [List.filter_eq_self]
   intro p hp
   obtain ⟨i, hi, rfl⟩ := List.getElem_of_mem hp
   have := h2 i hi
   rw [ZbU hi] at this
   cases he : Zbx L[i] with
   | true => rw [he] at this; simp at this
   | false => rfl
  refine ⟨[], ?_, ?_⟩
  ·rw [e, List.append_nil, ZdS]; rfl
  ·rw [List.append_nil, ZdS]
 | some i =>
  obtain ⟨hi, hq, hlt⟩ := Zzs h
  have hne : ((i : Int) == -1) = false := beq_false_of_ne (by omega)
  rw [hne]
  have e0 : ZbW (L.take (i + 1)) = L.take i := by
   have e1 : ZbW (L.take i) = L.take i := by
    unfold ZbW
    rw [List.filter_eq_self]
    intro p hp
    obtain ⟨j, hj, rfl⟩ := List.getElem_of_mem hp
    rw [List.length_take] at hj
    have := hlt j (by omega)
    rw [ZbU (by omega)] at this
    simp [this]
   rw [← e1]
   unfold ZbW
   rw [ZdW _ _ hi, hq]
   exact List.append_nil _
  have hl0 : (ZbW (L.take (i + 1))).length = i := by rw [e0, List.length_take]; omega
  have hs0 : Ztz L (i + 1) = L := by unfold Ztz; rw [hl0, e0, List.take_append_drop]
  refine ⟨?es, ?_, ?_⟩
  case es => exact List.replicate (L.length - (ZbW L).length) (.str (ByteArray.mk #[]))
  ·have hfl : (ZbW L).length ≤ L.length := List.length_filter_le _ _
   have hfin : Ztz L L.length = ZbW L ++ L.drop (ZbW L).length := by unfold Ztz; rw [List.take_of_length_le (Nat.le_refl _)]
   have hfill : Zgj (ZaM (ZbW L ++ L.drop (ZbW L).length)) (ZbW L).length (L.length - (ZbW L).length) (.str (ByteArray.mk #[])) = ZaM (ZbW L) ++ List.replicate (L.length - (ZbW L).length) (.str (ByteArray.mk #[])) := by
    unfold Zgj ZaM
    rw [List.map_append, List.take_append_of_le_length (by rw [List.length_map]; exact Nat.le_refl _), List.take_of_length_le (by rw [List.length_map]; exact Nat.le_refl _),
     List.drop_eq_nil_of_le (by simp only [List.length_append, List.length_map, List.length_drop]; omega), List.append_nil]
   have hnr : Zbb (ZaM (ZbW L) ++ List.replicate (L.length - (ZbW L).length) (.str (ByteArray.mk #[]))) = true := by
    unfold Zbb
    rw [List.all_append]
    have h1 := ZdS (ZbW L)
    unfold Zbb at h1
    rw [h1, Bool.true_and, List.all_eq_true]
    intro v hv
    rw [List.eq_of_mem_replicate hv]; rfl
   have hput : ∀ b : ByteArray, ∀ u : ByteArray, ZbK (.str u) 0 [.str b] = some (.str b) := fun b u => rfl
   show ZeX N L.length _ N (i : Int) (IntKind.i64.wrap ((i : Int) + 1)) (ZaM L) = _
   rw [ZaH (i := i) (by omega)]
   have hrun := Zql (R := R) (len := L.length) (k1 := k (ZbW L).length (ZaM (ZbW L) ++ List.replicate (L.length - (ZbW L).length) (.str (ByteArray.mk #[]))))
    (l := fun n j => ZeX N L.length (fun x17 e18 => (if (0 : Int) ≤ x17 ∧ x17 ≤ (L.length : Int) then Zan (decide ((0 + (x17 : Int).toNat) + (L.length - (x17 : Int).toNat) ≤ e18.length)) ((if (0 : Int) ≤ x17 ∧ x17 ≤ (L.length : Int) then Zan (Zbb (Zgj e18 (0 + (x17 : Int).toNat) (L.length - (x17 : Int).toNat) (.str (ByteArray.mk #[]))) && true) (k ((x17 : Int).toNat) (Zgj e18 (0 + (x17 : Int).toNat) (L.length - (x17 : Int).toNat) (.str (ByteArray.mk #[])))) else none)) else none)) n ((ZbW (L.take j)).length : Int) (j : Int) (ZaM (Ztz L j)))
    (fun n j hj => by
     have hf := Zjv L j
     simp only [ZeX, Zdt, Zbh hj]
     rw [if_pos ⟨by omega, by omega⟩]
     simp only [Int.toNat_natCast, Nat.zero_add, ZJA hj]
     show ZDc N (at_ L j) _ = _
     rw [ZnK]
     unfold Zlq
     rw [show ((at_ L j).toList == (ByteArray.mk #[]).toList) = Zbx (at_ L j) from rfl]
     cases he : Zbx (at_ L j) with
     | true =>
      obtain ⟨h1, h2⟩ := ZCT hj he
      simp only [Bool.not_true]
      rw [ZaH (i := j) (by omega), h1, h2]
     | false =>
      have e : (ZbW (L.take (j + 1))).length = (ZbW (L.take j)).length + 1 := by
       unfold ZbW
       rw [ZdW _ _ hj, he, List.length_append]; rfl
      simp only [Bool.not_false]
      rw [if_pos ⟨by omega, by omega⟩, ZcA (by rw [Zn0 (by omega)]; omega)]
      simp only [hput]
      rw [ZHQ hj he, ZaH (by omega), ZaH (by omega), e])
    (fun n => by
     simp only [ZeX, Zdt, Int.lt_irrefl, decide_false]
     rw [List.take_of_length_le (Nat.le_refl _), hfin]
     rw [if_pos ⟨by omega, by omega⟩, if_pos ⟨by omega, by omega⟩]
     simp only [Int.toNat_natCast, Nat.zero_add, hfill, hnr]
     rw [decide_eq_true (by rw [Zbl, List.length_append, List.length_drop]; omega)]
     rfl) (L.length - (i + 1)) N (i + 1) (by omega) (by omega)
   rw [hl0, hs0] at hrun
   exact hrun
  ·unfold Zbb
   rw [List.all_append]
   have h1 := ZdS (ZbW L)
   unfold Zbb at h1
   rw [h1, Bool.true_and, List.all_eq_true]
   intro v hv
   rw [List.eq_of_mem_replicate hv]; rfl
theorem ZkE {w : ByteArray} (hw : w.size ≤ 1048576) (hN : 1048580 < N) (k : List V → Option R) : ZoB N w k = k (ZaM (ZbJ w)) := by
 rw [Zww]
 unfold ZrA
 rw [ZKo N hw hN, ZdS]
 simp only [Bool.true_and, Bool.and_true, Zan]
 have hl := Zi1 w
 obtain ⟨es, he, hr⟩ := ZmZ N (L := Zby w) (by omega) hN (fun k4 e5 => (match Zbm (Zbi false [some ⟨e5, 1, 9, 0⟩] 11) ((e5.drop 0).take k4) with
   | some e6 => Zan (decide (0 + k4 ≤ e5.length)) (Zan (e6.all V.plain) (k e6))
   | none => none))
 refine he.trans ?_
 have e1 : ((ZaM (ZbW (Zby w)) ++ es).drop 0).take (ZbW (Zby w)).length = ZaM (ZbW (Zby w)) := by
  rw [List.drop_zero, List.take_append_of_le_length (by rw [Zbl]; exact Nat.le_refl _), List.take_of_length_le (by rw [Zbl]; exact Nat.le_refl _)]
 simp only [e1, Zgx, Zlk, Zan]
 rw [decide_eq_true (by rw [List.length_append, Zbl]; omega)]
 rfl
theorem Zld {L : List ByteArray} (hl : L.length ≤ 1048577) (hz : ∀ p ∈ L, p.size ≤ 1048576) (hN : 1048580 < N) (f : Fl) (k : Bool → Option R) :
  ZFH N (ZaM L) f k = k (!L.all Zep) := by
 rw [Zvq]
 unfold Zpy
 rw [Zyb]
 unfold Zqc
 rw [Zbl]
 refine (Zb4 (β := Nat) (l := fun n i => Zgp N (ZaM L) _ (L.length : Int) _ _ n (i : Int)) (len := L.length) (q := fun i => if !Zep (at_ L i) then some i else none) (kb := fun i => k (decide ((i : Int) ≥ 0))) (k1 := k (decide ((-1 : Int) ≥ 0))) ?_ ?_ (show L.length < N by omega)).trans ?_
 ·intro n i hi _
  simp only [Zgp, Zdv, Zbh hi, Int.natCast_nonneg, if_true, Int.toNat_natCast, ZcA hi, Zag, Zcv]
  rw [ZvI]
  unfold ZpA
  rw [Zw8 N (hz _ (Zft hi)) (by omega), ZaH (i := i) (by omega)]
  cases Zep (at_ L i) <;> rfl
 ·intro _ n
  simp only [Zgp, Zdv, Int.lt_irrefl, decide_false]
 ·have := Zjg (q := fun i => !Zep (at_ L i)) (len := L.length)
  unfold Zf9 at this
  simp only [Bool.not_not] at this
  have e : (List.range' 0 L.length).all (fun i => Zep (at_ L i)) = L.all Zep := by
   rw [Bool.eq_iff_iff, Zbp, List.all_eq_true]
   exact ⟨fun h p hp => by
    obtain ⟨i, hi, rfl⟩ := List.getElem_of_mem hp
    rw [← ZbU hi]
    exact h i hi, fun h i hi => h _ (Zft hi)⟩
  rw [← e, ← this]
  generalize (List.range' 0 L.length).findSome? _ = o
  cases o <;> rfl
theorem Zlm {w : ByteArray} (hw : w.size ≤ 1048576) (hN : 1048580 < N) (k : Bool → Option R) : ZAD N w k = k (ZfY w) := by
 rw [Zyi]
 unfold Zot
 rw [ZvN]
 unfold Zqi ZfY
 rw [show (w.toList == (ByteArray.mk #[]).toList) = Zbx w from rfl, ZcG, ZkE N hw hN]
 have hl := Zcr w
 rw [Zld N (by omega) (fun p hp => Nat.le_trans (ZkN hp) hw) hN]
 unfold inR
 by_cases h1 : w.size = 0
 ·rw [decide_eq_true h1, decide_eq_false (p := 1 ≤ (w.size : Int)) (by omega), Bool.false_and, Bool.and_false]
  cases decide ((w.size : Int) ≤ 60) <;> rfl
 ·rw [decide_eq_false h1, decide_eq_true (p := 1 ≤ (w.size : Int)) (by omega), Bool.true_and]
  cases decide ((w.size : Int) ≤ 60) <;> cases (ZbJ w).all Zep <;> rfl
theorem Zre {w : ByteArray} (hw : w.size ≤ 1048576) (hN : 1048580 < N) (k : Bool → Option R) : ZDH N w k = k (ZcM w) := by
 rw [ZvG]
 unfold ZqZ ZcM
 rw [Zlm N hw hN]
 cases h : ZfY w with
 | false => rfl
 | true =>
  have := Zcw h
  simp only
  rw [show (0 : Int) = ((0 : Nat) : Int) from rfl, ZbH w (by rw [← Zbo]; omega)]
  rfl
end Go.VM.VL
set_option linter.unusedSimpArgs false
set_option linter.unusedVariables false
namespace Go.VM.VL
open Go
variable {R : Type} (N : Nat)
def ZeB (root : Bool) (xs : List ByteArray) (p : ByteArray) : List ByteArray :=
 if ZrO p then xs else if Zd6 p then (if decide (0 < xs.length) && !Zd6 (at_ xs (xs.length - 1)) then xs.take (xs.length - 1) else if root then xs else xs ++ [p]) else xs ++ [p]
def ZpV (root : Bool) (ps : List ByteArray) : List ByteArray := ps.foldl (ZeB root) []
theorem ZlQ (root : Bool) (xs : List ByteArray) (p : ByteArray) : (ZeB root xs p).length ≤ xs.length + 1 := by
 unfold ZeB
 split
 ·omega
 ·split
  ·split
   ·rw [List.length_take]; omega
   ·split <;> simp
  ·simp
theorem Zw6 (es : List V) (ver : Nat) : ZbY [some ⟨[], 1, 9, 0⟩, some ⟨es, 1, 9, ver⟩] 1 ver = some ⟨es, 1, 9, ver⟩ := by simp [ZbY, nth]
theorem ZxI (xs : List ByteArray) (p : ByteArray) : ZaM xs ++ [V.str p] = ZaM (xs ++ [p]) := by simp [ZaM]
theorem ZB0 (xs : List ByteArray) (n : Nat) : ZaM (xs.take n) = (ZaM xs).take n := by simp [ZaM, List.map_take]
theorem Zne (n : Nat) : Nat.beq n n = true := Nat.beq_refl n
theorem ZuP {w : ByteArray} (h0 : 0 < (bl w).length) {ps : List ByteArray} (hps : ps.length ≤ 1048577) {i : Nat} (hi : i < ps.length) {xs : List ByteArray} {es : List V} {ver : Nat} (hx : es.take xs.length = ZaM xs) (hl : xs.length ≤ es.length) (hxi : xs.length ≤ i)
  (nx : Nat → Nat → Int → Ob → Option R) (k0 : Nat → Nat → Ob → Option R) :
  ∃ es' ver', es'.take (ZeB ((((at_ (bl w) 0).toNat : Nat) : Int) == 47) xs (at_ ps i)).length = ZaM (ZeB ((((at_ (bl w) 0).toNat : Nat) : Int) == 47) xs (at_ ps i)) ∧ (ZeB ((((at_ (bl w) 0).toNat : Nat) : Int) == 47) xs (at_ ps i)).length ≤ es'.length ∧
   ZcF N w (ZaM ps) (ps.length : Int) nx ver xs.length (i : Int) ⟨es, 1, 9, ver⟩ k0 = nx ver' (ZeB ((((at_ (bl w) 0).toNat : Nat) : Int) == 47) xs (at_ ps i)).length ((i + 1 : Nat) : Int) ⟨es', 1, 9, ver'⟩ := by
 unfold ZcF
 simp only [Zbh hi, Int.natCast_nonneg, if_true, Int.toNat_natCast, ZcA hi, Zag, Zcv, ZaH (i := i) (by omega)]
 have hb := ZbH (R := R) w (i := 0) h0
 simp only [Int.ofNat_zero, Int.natCast_zero] at hb
 have app : ∃ es', es' = es.take xs.length ++ [V.str (at_ ps i)] ∧ es'.take (xs ++ [at_ ps i]).length = ZaM (xs ++ [at_ ps i]) ∧ (xs ++ [at_ ps i]).length ≤ es'.length := by
  refine ⟨_, rfl, ?_, ?_⟩
  ·rw [hx, ZxI, List.take_of_length_le]
   rw [Zbl]; exact Nat.le_refl _
  ·rw [hx, ZxI, Zbl]; exact Nat.le_refl _
 have happ : (match ZbY [some ⟨[], 1, 9, 0⟩, some ⟨es, 1, 9, ver⟩] 1 ver with
   | some ob48 => (if xs.length ≤ ob48.es.length then (match ZbY [some ⟨[], 1, 9, 0⟩, some { ob48 with es := (ob48.es.take xs.length) }] 1 ver with
    | some ob49 => Zan (Nat.beq ob49.elem 9) ((if True ∧ xs.length = ob49.es.length ∧ (xs.length + 1) * 16 ≤ 140737488355328 ∧ 0 < 1 then nx (ver + 1) (xs.length + 1) ((i + 1 : Nat) : Int) ({ ob49 with es := (ob49.es ++ ([.str (at_ ps i)] : List V)), ver := (ver + 1) }) else none))
    | none => none) else none)
   | none => none) = nx (ver + 1) (xs ++ [at_ ps i]).length ((i + 1 : Nat) : Int) ⟨es.take xs.length ++ [V.str (at_ ps i)], 1, 9, ver + 1⟩ := by
  simp only [Zw6, if_pos hl, Zne, Zan, List.length_take, Nat.min_eq_left hl]
  rw [if_pos ⟨trivial, trivial, by omega, by omega⟩]
  simp
 obtain ⟨es1, he1, ha1, ha2⟩ := app
 unfold ZeB
 cases hd : ZrO (at_ ps i) with
 | true =>
  unfold ZrO at hd
  rw [hd]
  exact ⟨es, ver, hx, hl, rfl⟩
 | false =>
  unfold ZrO at hd
  rw [hd]
  simp only [Bool.false_eq_true, if_false]
  cases hdd : Zd6 (at_ ps i) with
  | false =>
   unfold Zd6 at hdd
   rw [hdd]
   simp only [Bool.false_eq_true, if_false]
   refine ⟨es1, ver + 1, ha1, ha2, ?_⟩
   rw [he1]
   exact happ
  | true =>
   unfold Zd6 at hdd
   rw [hdd]
   simp only [if_true]
   have hroot : ∃ es' ver', es'.take ((if ((((at_ (bl w) 0).toNat : Nat) : Int) == 47) = true then xs else xs ++ [at_ ps i])).length = ZaM (if ((((at_ (bl w) 0).toNat : Nat) : Int) == 47) = true then xs else xs ++ [at_ ps i]) ∧
     (if ((((at_ (bl w) 0).toNat : Nat) : Int) == 47) = true then xs else xs ++ [at_ ps i]).length ≤ es'.length ∧
     (ZbP w 0 fun n35 => (match (n35 == 47) with
       | true => nx ver xs.length ((i + 1 : Nat) : Int) ⟨es, 1, 9, ver⟩
       | false => (match ZbY [some ⟨[], 1, 9, 0⟩, some ⟨es, 1, 9, ver⟩] 1 ver with
   | some ob48 => (if xs.length ≤ ob48.es.length then (match ZbY [some ⟨[], 1, 9, 0⟩, some { ob48 with es := (ob48.es.take xs.length) }] 1 ver with
    | some ob49 => Zan (Nat.beq ob49.elem 9) ((if True ∧ xs.length = ob49.es.length ∧ (xs.length + 1) * 16 ≤ 140737488355328 ∧ 0 < 1 then nx (ver + 1) (xs.length + 1) ((i + 1 : Nat) : Int) ({ ob49 with es := (ob49.es ++ ([.str (at_ ps i)] : List V)), ver := (ver + 1) }) else none))
    | none => none) else none)
   | none => none))) = nx ver' (if ((((at_ (bl w) 0).toNat : Nat) : Int) == 47) = true then xs else xs ++ [at_ ps i]).length ((i + 1 : Nat) : Int) ⟨es', 1, 9, ver'⟩ := by
    rw [hb]
    cases hr : ((((at_ (bl w) 0).toNat : Nat) : Int) == 47) with
    | true => exact ⟨es, ver, hx, hl, rfl⟩
    | false =>
     simp only [Bool.false_eq_true, if_false]
     exact ⟨es1, ver + 1, ha1, ha2, by rw [he1]; exact happ⟩
   by_cases hn : 0 < xs.length
   ·have h1 : decide ((xs.length : Int) > 0) = true := decide_eq_true (by omega)
    have h2 : IntKind.i64.wrap ((xs.length : Int) - 1) = ((xs.length - 1 : Nat) : Int) := by
     rw [Zbf (by omega) (by omega)]; omega
    have h3 : nth es (0 + (xs.length - 1)) = some (.str (at_ xs (xs.length - 1))) := by
     rw [Nat.zero_add]
     have : nth (es.take xs.length) (xs.length - 1) = some (.str (at_ xs (xs.length - 1))) := by rw [hx, ZcA (by omega)]
     exact (Zcs this).1
    rw [h1]
    have hi1 : (0 : Int) ≤ ((xs.length - 1 : Nat) : Int) ∧ ((xs.length - 1 : Nat) : Int) < (xs.length : Int) := ⟨Int.natCast_nonneg _, by omega⟩
    have hi2 : (0 : Int) ≤ ((xs.length - 1 : Nat) : Int) ∧ ((xs.length - 1 : Nat) : Int) ≤ (xs.length : Int) := ⟨Int.natCast_nonneg _, by omega⟩
    simp only [Zw6, Zne, Zan, h2, Int.toNat_natCast, h3, if_pos hi1, if_pos hi2, V.cells, List.drop_zero, Zbv, Zcv]
    have hdec : decide (0 < xs.length) = true := decide_eq_true hn
    rw [hdec]
    cases hq : Zd6 (at_ xs (xs.length - 1)) with
    | false =>
     unfold Zd6 at hq
     rw [hq]
     simp only [Bool.not_false, Bool.and_self, if_true]
     refine ⟨es, ver, ?_, ?_, ?_⟩
     ·rw [List.length_take, Nat.min_eq_left (by omega), ZB0, ← hx, List.take_take, Nat.min_eq_left (by omega)]
     ·rw [List.length_take]; omega
     ·rw [List.length_take, Nat.min_eq_left (by omega)]
    | true =>
     unfold Zd6 at hq
     rw [hq]
     simp only [Bool.not_true, Bool.and_false, Bool.false_eq_true, if_false]
     simp only [Zw6] at hroot
     exact hroot
   ·have h1 : decide ((xs.length : Int) > 0) = false := decide_eq_false (by omega)
    rw [h1]
    have hdec : decide (0 < xs.length) = false := decide_eq_false hn
    rw [hdec]
    simp only [Bool.false_and, Bool.false_eq_true, if_false]
    exact hroot
theorem ZE3 {w : ByteArray} (hw : w.size ≤ 1048576) (h0 : 0 < w.size) (hN : 1048580 < N) (k : List V → Option R) :
  ZGL N w k = k (ZaM (ZpV ((((at_ (bl w) 0).toNat : Nat) : Int) == 47) (ZbJ w))) := by
 rw [Zw3]
 unfold Zqb
 rw [Zfm N hw hN, Zbl]
 have hpl := Zcr w
 generalize hps : ZbJ w = ps at hpl
 have hb0 : 0 < (bl w).length := by rw [← Zbo]; exact h0
 have key : ∀ (d n i : Nat) (xs : List ByteArray) (es : List V) (ver : Nat), i + d = ps.length → d < n → es.take xs.length = ZaM xs → xs.length ≤ es.length → xs.length ≤ i →
   ZfB N w (ZaM ps) (ps.length : Int) (fun k50 k51 O52 => (match ZbY [some ⟨[], 1, 9, 0⟩, some O52] 1 k50 with
  | some ob53 => (match Zbm (Zbi false [some ⟨[], 1, 9, 0⟩, some O52] 11) ((ob53.es.drop 0).take k51) with
   | some e54 => Zan (decide (0 + k51 ≤ ob53.es.length)) (Zan (e54.all V.plain) ((match Nat.beq ob53.esz 1 with
    | true => k e54
    | false => none)))
   | none => none)
  | none => none)) n ver xs.length (i : Int) ⟨es, 1, 9, ver⟩ = k (ZaM ((ps.drop i).foldl (ZeB ((((at_ (bl w) 0).toNat : Nat) : Int) == 47)) xs)) := by
  intro d
  induction d with
  | zero =>
   intro n i xs es ver hi hn hx hl hxi
   obtain ⟨n, rfl⟩ : ∃ m, n = m + 1 := ⟨n - 1, by omega⟩
   obtain rfl : i = ps.length := by omega
   simp only [ZfB, ZcF]
   rw [show decide ((ps.length : Int) < (ps.length : Int)) = false from decide_eq_false (by omega)]
   simp only [Zw6, List.drop_zero, hx, Zgx, Nat.zero_add, decide_eq_true hl, Zan, Zlk, Zne, List.drop_length, List.foldl_nil]
  | succ d ih =>
   intro n i xs es ver hi hn hx hl hxi
   obtain ⟨n, rfl⟩ : ∃ m, n = m + 1 := ⟨n - 1, by omega⟩
   have hlt : i < ps.length := by omega
   rw [ZfB]
   obtain ⟨es', ver', q1, q2, q3⟩ := ZuP N hb0 (by omega) hlt hx hl hxi (fun k_5 k_6 x_4 O_9 => ZfB N w (ZaM ps) (ps.length : Int) (fun k50 k51 O52 => (match ZbY [some ⟨[], 1, 9, 0⟩, some O52] 1 k50 with
  | some ob53 => (match Zbm (Zbi false [some ⟨[], 1, 9, 0⟩, some O52] 11) ((ob53.es.drop 0).take k51) with
   | some e54 => Zan (decide (0 + k51 ≤ ob53.es.length)) (Zan (e54.all V.plain) ((match Nat.beq ob53.esz 1 with
    | true => k e54
    | false => none)))
   | none => none)
  | none => none)) n k_5 k_6 x_4 O_9) (fun k50 k51 O52 => (match ZbY [some ⟨[], 1, 9, 0⟩, some O52] 1 k50 with
  | some ob53 => (match Zbm (Zbi false [some ⟨[], 1, 9, 0⟩, some O52] 11) ((ob53.es.drop 0).take k51) with
   | some e54 => Zan (decide (0 + k51 ≤ ob53.es.length)) (Zan (e54.all V.plain) ((match Nat.beq ob53.esz 1 with
    | true => k e54
    | false => none)))
   | none => none)
  | none => none))
   rw [q3, ih n (i + 1) _ es' ver' (by omega) (by omega) q1 q2 (by have := ZlQ ((((at_ (bl w) 0).toNat : Nat) : Int) == 47) xs (at_ ps i); omega)]
   have hdr : ps.drop i = at_ ps i :: ps.drop (i + 1) := by
    rw [List.drop_eq_getElem_cons hlt]
    congr 1
    exact (ZbU hlt).symm
   rw [hdr, List.foldl_cons]
 exact key ps.length N 0 [] [] 0 (by omega) (by omega) rfl (Nat.le_refl 0) (Nat.le_refl 0)
end Go.VM.VL
set_option linter.unusedSimpArgs false
set_option linter.unusedVariables false
namespace Go.VM.VL
open Go
variable {R : Type} (N : Nat)
def Zer (l : List Nod) (i : Nat) : Nat := Zbr (fun i => (at_ l i).data.size) i
theorem ZBS {l : List Nod} (hl : Small l) (hN : 1048580 < N) (f : Fl) (room : Int) (k : Int → Option R) : ZFW N (nodsV l) f room k = k (Zer l l.length : Nat) := by
 rw [Zyw]
 unfold ZqC
 rw [ZbD]
 have hll := hl.len
 refine ZbX (l := fun n i => ZgK N (nodsV l) _ (l.length : Int) (nodsV l) f room _ n (Zer l i : Nat) (i : Int)) (len := l.length) (k1 := k (Zer l l.length : Nat)) ?_ ?_ (show l.length < N by omega)
 ·intro n i hi
  have h1 := ZeI (fun i => (at_ l i).data.size) (a := i + 1) (b := l.length) (by omega)
  have h2 := hl.sum
  have h3 : Zbr (fun i => (at_ l i).data.size) (i + 1) = Zer l i + (at_ l i).data.size := rfl
  simp only [ZgK, Zdu, Zbh hi, Int.natCast_nonneg, if_true, Int.toNat_natCast, Za9 hi, Zag, Zbw]
  rw [Zbf (by omega) (by omega), ZaH (i := i) (by omega)]
  rfl
 ·intro n
  simp only [ZgK, Zdu, Int.lt_irrefl, decide_false]
theorem ZBq {l : List Nod} (hl : Small l) (hN : 1048580 < N) (f : Fl) (room : Int) (k : Int → Option R) : ZFX N (nodsV l) f room k = k (Zer l l.length : Nat) := by
 rw [Zyh]
 unfold Zpd
 rw [ZbD]
 have hll := hl.len
 refine ZbX (l := fun n i => Zga N (nodsV l) _ (l.length : Int) (nodsV l) f room _ n (Zer l i : Nat) (i : Int)) (len := l.length) (k1 := k (Zer l l.length : Nat)) ?_ ?_ (show l.length < N by omega)
 ·intro n i hi
  have h1 := ZeI (fun i => (at_ l i).data.size) (a := i + 1) (b := l.length) (by omega)
  have h2 := hl.sum
  have h3 : Zbr (fun i => (at_ l i).data.size) (i + 1) = Zer l i + (at_ l i).data.size := rfl
  simp only [Zga, Zdr, Zbh hi, Int.natCast_nonneg, if_true, Int.toNat_natCast, Za9 hi, Zag, Zbw]
  rw [Zbf (by omega) (by omega), ZaH (i := i) (by omega)]
  rfl
 ·intro n
  simp only [Zga, Zdr, Int.lt_irrefl, decide_false]
def ZdH (es : List Ent) (x : Int) (j : Nat) : Nat := Zbr (fun j => ((at_ es j).2 == x).toNat) j
def Za6 (l : List Nod) (x : Int) (i : Nat) : Nat := Zbr (fun i => ZdH (at_ l i).es x (at_ l i).es.length) i
theorem ZjS (es : List Ent) (x : Int) : ∀ j, ZdH es x j ≤ j
 | 0 => Nat.le_refl _
 | j + 1 => by
  have ih := ZjS es x j
  show ZdH es x j + ((at_ es j).2 == x).toNat ≤ _
  have := Bool.toNat_le ((at_ es j).2 == x)
  omega
theorem ZiI {l : List Nod} (hl : Small l) (x : Int) {i : Nat} (h : i ≤ l.length) : Za6 l x i ≤ 1048576 := by
 have h1 := Zey (g := fun i => ZdH (at_ l i).es x (at_ l i).es.length) (h := fun i => (at_ l i).es.length) (fun i => ZjS _ _ _) i
 have h2 := ZeI (fun i => (at_ l i).es.length) h
 have h3 := hl.ents
 unfold Za6; omega
theorem ZCa (es : List Ent) (hes : es.length ≤ 1048576) (hN : 1048580 < N) (x : Int) (c0 : Nat) (hc : c0 ≤ 1048576) (e_3 : List V) (f_4 : Fl) (x_5 x_6 : Int) (f_8 : Fl) (e_11 : List V) (f_12 : Fl) (x_13 x_14 x_15 x_16 x_17 x_18 : Int) (w_19 : ByteArray) (e_20 : List V) (f_21 : Fl) (k0 : Int → Option R) :
  Zfc N x e_3 f_4 x_5 x_6 (ZbG es) f_8 (es.length : Int) e_11 f_12 x_13 x_14 x_15 x_16 x_17 x_18 w_19 e_20 f_21 k0 N (c0 : Int) 0 = k0 ((c0 + ZdH es x es.length : Nat) : Int) := by
 refine ZbX (l := fun n i => Zfc N x e_3 f_4 x_5 x_6 (ZbG es) f_8 (es.length : Int) e_11 f_12 x_13 x_14 x_15 x_16 x_17 x_18 w_19 e_20 f_21 k0 n ((c0 + ZdH es x i : Nat) : Int) (i : Int)) (len := es.length) (k1 := k0 ((c0 + ZdH es x es.length : Nat) : Int)) ?_ ?_ (show es.length < N by omega)
 ·intro n i hi
  have h1 := ZjS es x i
  have h2 : ZdH es x (i + 1) = ZdH es x i + ((at_ es i).2 == x).toNat := rfl
  simp only [Zfc, Zc8, Zbh hi, Int.natCast_nonneg, if_true, Int.toNat_natCast, ZbZ hi, Zag, ZcI]
  rw [h2, ZaH (i := i) (by omega)]
  cases h : ((at_ es i).2 == x) with
  | true => simp only; rw [ZaH (i := c0 + ZdH es x i) (by omega)]; rfl
  | false => rfl
 ·intro n
  simp only [Zfc, Zc8, Int.lt_irrefl, decide_false]
theorem ZFr {l : List Nod} (hl : Small l) (hN : 1048580 < N) (f : Fl) (room x : Int) (k : Int → Option R) : ZIj N (nodsV l) f room x k = k (Za6 l x l.length : Nat) := by
 rw [Zwk]
 unfold Zp5
 rw [ZbD]
 have hll := hl.len
 refine ZbX (l := fun n i => ZgC N x (nodsV l) _ (l.length : Int) (nodsV l) f room _ n (Za6 l x i : Nat) (i : Int)) (len := l.length) (k1 := k (Za6 l x l.length : Nat)) ?_ ?_ (show l.length < N by omega)
 ·intro n i hi
  simp only [ZgC, ZdI, Zbh hi, Int.natCast_nonneg, if_true, Int.toNat_natCast, Za9 hi, Zag, Zbw, ZbC]
  rw [ZCa N _ (hl.es i hi) hN _ _ (ZiI hl x (Nat.le_of_lt hi)), ZaH (i := i) (by omega)]
  rfl
 ·intro n
  simp only [ZgC, ZdI, Int.lt_irrefl, decide_false]
def Zxe (lo : Int) (l : List Nod) (es : List Ent) (j : Nat) : Bool :=
 Zd5 (at_ es j).1 && (decide (j = 0) || Op.bytesLess (at_ es (j - 1)).1.toList (at_ es j).1.toList) && (inR (at_ es j).2 lo ((l.length : Int) - 1) && ((at_ l (at_ es j).2.toNat).kind != 0))
def ZqB (lo : Int) (l : List Nod) (es : List Ent) : Bool := (List.range' 0 es.length).all (Zxe lo l es)
theorem ZuL {l : List Nod} (hll : l.length ≤ 1048576) {es : List Ent} (hes : es.length ≤ 1048576) (hz : ∀ j, j < es.length → (at_ es j).1.size ≤ 1048576) (hN : 1048580 < N) (f g : Fl) (room : Int) (k : Bool → Option R) :
  ZGB N (nodsV l) f room (ZbG es) g k = k (ZqB 1 l es) := by
 rw [ZwQ]
 unfold ZrL
 rw [ZbC]
 refine (ZcC (l := fun n i => ZgG N (ZbG es) g (ZbG es) _ (es.length : Int) (nodsV l) f room (fun _ => k false) (fun _ => k true) n (i : Int)) (len := es.length) (p := Zxe 1 l es) (k0 := k false) (k1 := k true) ?_ ?_ (show es.length < N by omega)).trans ?_
 ·intro n i hi _
  simp only [ZgG, Zdm, Zbh hi, Int.natCast_nonneg, if_true, Int.toNat_natCast, ZbZ hi, Zag, ZcI, ZKV N (hz i hi) (by omega : 1048576 < N), ZbD, ZBd]
  rw [ZaH (i := i) (by omega), Zbf (x := (l.length : Int) - 1) (by omega) (by omega)]
  unfold Zxe
  cases h : inR (at_ es i).2 1 ((l.length : Int) - 1) with
  | false =>
   cases Zd5 (at_ es i).1 with
   | false => rfl
   | true =>
    by_cases h0 : i = 0
    ·subst h0; rfl
    ·rw [decide_eq_true (p := ((i : Int) > 0)) (by omega), decide_eq_false h0]
     simp only [Bool.not_true, Bool.true_and, Bool.false_or]
     rw [Zbf (x := (i : Int) - 1) (by omega) (by omega), if_pos (by omega), show ((i : Int) - 1).toNat = i - 1 by omega, ZbZ (by omega)]
     simp only [Zag, ZcI]
     cases Op.bytesLess (at_ es (i - 1)).1.toList (at_ es i).1.toList <;> rfl
  | true =>
   obtain ⟨h1, h2⟩ := Zb3.1 h
   have h3 : 0 ≤ (at_ es i).2 := by omega
   simp only [if_pos h3, Za9 (show (at_ es i).2.toNat < l.length by omega), Zag, Zbw]
   rw [show ((at_ l (at_ es i).2.toNat).kind != 0) = !((at_ l (at_ es i).2.toNat).kind == 0) from rfl]
   generalize ((at_ l (at_ es i).2.toNat).kind == 0) = c
   cases Zd5 (at_ es i).1 with
   | false => rfl
   | true =>
    by_cases h0 : i = 0
    ·subst h0; cases c <;> rfl
    ·rw [decide_eq_true (p := ((i : Int) > 0)) (by omega), decide_eq_false h0]
     simp only [Bool.not_true, Bool.true_and, Bool.false_or]
     rw [Zbf (x := (i : Int) - 1) (by omega) (by omega), if_pos (by omega), show ((i : Int) - 1).toNat = i - 1 by omega, ZbZ (by omega)]
     simp only [Zag, ZcI]
     cases Op.bytesLess (at_ es (i - 1)).1.toList (at_ es i).1.toList <;> cases c <;> rfl
 ·intro _ n
  simp only [ZgG, Zdm, Int.lt_irrefl, decide_false]
 ·show (if ZqB 1 l es = true then _ else _) = _
  cases ZqB 1 l es <;> rfl
def ZAB (n : Nod) : Bool := (n.mode == 0) && (n.uid == 0) && (n.gid == 0) && (n.time == 0) && Zbx n.data && ((n.es.length : Int) == 0)
def ZsC (lo : Int) (l : List Nod) (n : Nod) : Bool :=
 if n.kind = 1 then decide ((n.data.size : Int) ≤ 60) && ((n.es.length : Int) == 0)
 else if n.kind = 2 then Zbx n.data && ZqB lo l n.es
 else if n.kind = 3 then ZfY n.data && ((n.es.length : Int) == 0)
 else false
def Zkp (lo : Int) (l : List Nod) (n : Nod) : Bool :=
 if n.kind = 0 then ZAB n else inR n.mode 0 511 && inR n.uid 0 99 && inR n.gid 0 99 && inR n.time 0 1000000 && ZsC lo l n
structure NodSmall (n : Nod) : Prop where
 data : n.data.size ≤ 1048576
 es : n.es.length ≤ 1048576
 name : ∀ j, j < n.es.length → (at_ n.es j).1.size ≤ 1048576
theorem Small.nod {l : List Nod} (h : Small l) {i : Nat} (hi : i < l.length) : NodSmall (at_ l i) := ⟨h.data i hi, h.es i hi, h.name i hi⟩
theorem ZGw {l : List Nod} (hll : l.length ≤ 1048576) {n : Nod} (hn : NodSmall n) (hN : 1048580 < N) (f g : Fl) (room : Int) (k : Bool → Option R) :
  ZGk N (nodsV l) f room n.kind n.mode n.uid n.gid n.time n.data (ZbG n.es) g k = k (Zkp 1 l n) := by
 rw [Zyq]
 unfold ZqX
 rw [Zyf]
 unfold ZoX
 simp only [ZBd, ZuL N hll hn.es hn.name hN, Zv3 N hn.data hN, ZbC]
 unfold Zkp ZsC ZAB
 rw [show (n.data.toList == (ByteArray.mk #[]).toList) = Zbx n.data from rfl]
 by_cases h0 : n.kind = 0
 ·rw [if_pos h0, beq_iff_eq.2 h0]
  cases (n.mode == 0) <;> cases (n.uid == 0) <;> cases (n.gid == 0) <;> cases (n.time == 0) <;> cases Zbx n.data <;> rfl
 ·rw [if_neg h0, beq_false_of_ne h0]
  cases inR n.mode 0 511 <;> cases inR n.uid 0 99 <;> cases inR n.gid 0 99 <;> cases inR n.time 0 1000000 <;> try rfl
  simp only [Bool.not_true, Bool.true_and]
  by_cases h1 : n.kind = 1
  ·rw [if_pos h1, beq_iff_eq.2 h1]
   cases decide ((n.data.size : Int) ≤ 60) <;> rfl
  ·rw [if_neg h1, beq_false_of_ne h1]
   by_cases h2 : n.kind = 2
   ·rw [if_pos h2, beq_iff_eq.2 h2]
    cases Zbx n.data <;> rfl
   ·rw [if_neg h2, beq_false_of_ne h2]
    by_cases h3 : n.kind = 3
    ·rw [if_pos h3, beq_iff_eq.2 h3]
     cases ZfY n.data <;> rfl
    ·rw [if_neg h3, beq_false_of_ne h3]
theorem ZB3 {l : List Nod} (hll : l.length ≤ 1048576) (f : Fl) (room x : Int) (k : Bool → Option R) :
  ZDO N (nodsV l) f room x k = k (inR x 0 ((l.length : Int) - 1) && ((at_ l x.toNat).kind != 0)) := by
 rw [Zys]
 unfold ZrQ
 rw [ZAY, ZbD, Zbf (x := (l.length : Int) - 1) (by omega) (by omega)]
 cases h : inR x 0 ((l.length : Int) - 1) with
 | false => rfl
 | true =>
  obtain ⟨h1, h2⟩ := Zb3.1 h
  simp only
  rw [if_pos h1, Za9 (by omega)]
  rfl
theorem ZF7 {l : List Nod} (hll : l.length ≤ 1048576) {es : List Ent} (hes : es.length ≤ 1048576) (hz : ∀ j, j < es.length → (at_ es j).1.size ≤ 1048576) (hN : 1048580 < N) (f g h : Fl) (room x_8 x_9 x_10 x_11 x_12 : Int) (w : ByteArray) (a b : Option R) :
  ZeG N (ZbG es) f (es.length : Int) (nodsV l) g room x_8 x_9 x_10 x_11 x_12 w (ZbG es) h (fun _ => a) (fun _ => b) N 0 = if ZqB 0 l es then b else a := by
 refine ZcC (l := fun n i => ZeG N (ZbG es) f (es.length : Int) (nodsV l) g room x_8 x_9 x_10 x_11 x_12 w (ZbG es) h (fun _ => a) (fun _ => b) n (i : Int)) (len := es.length) (p := Zxe 0 l es) (k0 := a) (k1 := b) ?_ ?_ (show es.length < N by omega)
 ·intro n i hi _
  simp only [ZeG, ZdC, Zbh hi, Int.natCast_nonneg, if_true, Int.toNat_natCast, ZbZ hi, Zag, ZcI, ZlB N (hz i hi) (by omega : 1048576 < N), ZB3 N hll]
  rw [ZaH (i := i) (by omega)]
  unfold Zxe
  generalize (inR (at_ es i).2 0 ((l.length : Int) - 1) && ((at_ l (at_ es i).2.toNat).kind != 0)) = c
  cases Zd5 (at_ es i).1 with
  | false => rfl
  | true =>
   by_cases h0 : i = 0
   ·subst h0
    cases c <;> rfl
   ·rw [decide_eq_true (p := ((i : Int) > 0)) (by omega), decide_eq_false h0]
    simp only [Bool.not_true, Bool.true_and, Bool.false_or]
    rw [Zbf (x := (i : Int) - 1) (by omega) (by omega), if_pos (by omega), show ((i : Int) - 1).toNat = i - 1 by omega, ZbZ (by omega)]
    simp only [Zag, ZcI]
    cases Op.bytesLess (at_ es (i - 1)).1.toList (at_ es i).1.toList <;> cases c <;> rfl
 ·intro _ n
  simp only [ZeG, ZdC, Int.lt_irrefl, decide_false]
theorem ZIU {l : List Nod} (hll : l.length ≤ 1048576) {n : Nod} (hn : NodSmall n) (hN : 1048580 < N) (f g : Fl) (room : Int) (k : Bool → Option R) :
  ZHD N (nodsV l) f room n.kind n.mode n.uid n.gid n.time n.data (ZbG n.es) g k = k (Zkp 0 l n) := by
 rw [Zx5]
 unfold ZpD
 rw [ZwH, Znw, ZvF, ZvC]
 unfold Zpa ZlE Zpt Zpr
 simp only [ZAY, Zlm N hn.data hN, ZbC, ZF7 N hll hn.es hn.name hN]
 unfold Zkp ZsC ZAB
 rw [show (n.data.toList == (ByteArray.mk #[]).toList) = Zbx n.data from rfl]
 by_cases h0 : n.kind = 0
 ·rw [if_pos h0, beq_iff_eq.2 h0]
  cases (n.mode == 0) <;> cases (n.uid == 0) <;> cases (n.gid == 0) <;> cases (n.time == 0) <;> cases Zbx n.data <;> rfl
 ·rw [if_neg h0, beq_false_of_ne h0]
  cases inR n.mode 0 511 <;> cases inR n.uid 0 99 <;> cases inR n.gid 0 99 <;> cases inR n.time 0 1000000 <;> try rfl
  simp only [Bool.not_true, Bool.true_and]
  have hle : decide ((n.es.length : Int) > 0) = !((n.es.length : Int) == 0) := by
   by_cases h : (n.es.length : Int) = 0
   ·rw [h]; rfl
   ·rw [beq_false_of_ne h, decide_eq_true (by omega)]; rfl
  rw [hle]
  by_cases h1 : n.kind = 1
  ·rw [h1]
   cases ((n.es.length : Int) == 0) <;> cases decide ((n.data.size : Int) ≤ 60) <;> rfl
  ·rw [if_neg h1]
   by_cases h2 : n.kind = 2
   ·rw [h2]
    show (if ZqB 0 l n.es = true then k (Zbx n.data) else k false) = k (Zbx n.data && ZqB 0 l n.es)
    cases ZqB 0 l n.es <;> cases Zbx n.data <;> rfl
   ·rw [if_neg h2, show (n.kind != 2) = true from bne_iff_ne.2 h2, beq_false_of_ne h1, beq_false_of_ne h2]
    by_cases h3 : n.kind = 3
    ·rw [if_pos h3, beq_iff_eq.2 h3]
     cases ((n.es.length : Int) == 0) <;> cases ZfY n.data <;> rfl
    ·rw [if_neg h3, beq_false_of_ne h3]
     cases ((n.es.length : Int) == 0) <;> rfl
end Go.VM.VL
set_option linter.unusedSimpArgs false
set_option linter.unusedVariables false
namespace Go.VM.VL
open Go
variable {R : Type} (N : Nat)
theorem Zq4 (g h : Nat → Nat) : ∀ n, Zbr (fun i => g i + h i) n = Zbr g n + Zbr h n
 | 0 => rfl
 | n + 1 => by
  have := Zq4 g h n
  show Zbr (fun i => g i + h i) n + (g n + h n) = _
  rw [this]
  show _ = (Zbr g n + g n) + (Zbr h n + h n)
  omega
theorem Zgc {g h : Nat → Nat} : ∀ n, (∀ i, i < n → g i = h i) → Zbr g n = Zbr h n
 | 0, _ => rfl
 | n + 1, e => by
  show Zbr g n + g n = Zbr h n + h n
  rw [Zgc n fun i hi => e i (by omega), e n (by omega)]
theorem ZiQ : ∀ n, Zbr (fun _ => 0) n = 0
 | 0 => rfl
 | n + 1 => by show Zbr (fun _ => 0) n + 0 = 0; rw [ZiQ n]
theorem ZrP (g : Nat → Nat) {a : Nat} : ∀ n, a < n → Zbr (fun i => if i = a then g i else 0) n = g a
 | 0, h => by omega
 | n + 1, h => by
  show Zbr (fun i => if i = a then g i else 0) n + (if n = a then g n else 0) = _
  by_cases hn : n = a
  ·subst hn
   rw [if_pos rfl, Zgc (h := fun _ => 0) n fun i hi => if_neg (by omega), ZiQ]; omega
  ·rw [if_neg hn, ZrP g n (by omega)]; rfl
structure Dist (len : Nat) (s : List Nat) : Prop where
 one : ∀ n, s.count n ≤ 1
 lt : ∀ n ∈ s, n < len
def Zoq (g : Nat → Nat) : List Nat → Nat
 | [] => 0
 | a :: l => g a + Zoq g l
theorem ZlC (g : Nat → Nat) {len : Nat} : ∀ (s : List Nat), (∀ n ∈ s, n < len) → Zoq g s = Zbr (fun n => s.count n * g n) len
 | [], _ => by simp [Zoq, ZiQ]
 | a :: s, h => by
  have ih := ZlC g s fun n hn => h n (List.mem_cons_of_mem _ hn)
  have e : Zbr (fun n => (a :: s).count n * g n) len = Zbr (fun n => (s.count n * g n) + (if n = a then g n else 0)) len := Zgc _ fun n _ => by
   by_cases hn : n = a
   ·subst hn; rw [List.count_cons_self, if_pos rfl, Nat.add_mul, Nat.one_mul]
   ·rw [List.count_cons_of_ne (fun h => hn h.symm), if_neg hn, Nat.add_zero]
  show g a + Zoq g s = _
  rw [e, Zq4, ← ih, ZrP g len (h a List.mem_cons_self)]; omega
theorem Dist.sum {len : Nat} {s : List Nat} (h : Dist len s) (g : Nat → Nat) : Zoq g s ≤ Zbr g len := by
 rw [ZlC g s h.lt]
 exact Zey (fun n => by
  have := h.one n
  calc s.count n * g n ≤ 1 * g n := Nat.mul_le_mul_right _ this
   _ = g n := Nat.one_mul _) _
theorem ZlT : ∀ n, Zbr (fun _ => 1) n = n
 | 0 => rfl
 | n + 1 => by show Zbr (fun _ => 1) n + 1 = _; rw [ZlT n]
theorem Zqs : ∀ s : List Nat, Zoq (fun _ => 1) s = s.length
 | [] => rfl
 | a :: s => by show 1 + Zoq _ s = _; rw [Zqs s, List.length_cons]; omega
theorem Dist.len {len : Nat} {s : List Nat} (h : Dist len s) : s.length ≤ len := by
 have := h.sum fun _ => 1
 rwa [ZlT, Zqs] at this
def Zca (s : List Nat) : List V := s.map fun (n : Nat) => V.int .i64 (n : Int)
theorem ZdL (s : List Nat) : (Zca s).length = s.length := by simp [Zca]
theorem ZmH {s : List Nat} {i : Nat} (h : i < s.length) : nth (Zca s) i = some (.int .i64 (at_ s i : Nat)) := by rw [Zca, Zei, Zfb h, ZbU h]; rfl
theorem ZB7 {s : List Nat} (hs : s.length ≤ 1048576) (hN : 1048580 < N) (f : Fl) (x : Nat) (k : Bool → Option R) : Zlf N (Zca s) f (x : Int) k = k (s.contains x) := by
 rw [Zxd]
 unfold ZrI
 rw [ZdL]
 refine (ZcC (l := fun n i => Zf7 N (x : Int) (Zca s) _ (s.length : Int) _ _ n (i : Int)) (len := s.length) (p := fun i => !(at_ s i == x)) (k0 := k true) (k1 := k false) ?_ ?_ (show s.length < N by omega)).trans ?_
 ·intro n i hi _
  simp only [Zf7, Zc3, Zbh hi, Int.natCast_nonneg, if_true, Int.toNat_natCast, ZmH hi, Zag, Ze3]
  rw [ZaH (i := i) (by omega), show (((at_ s i : Nat) : Int) == (x : Int)) = (at_ s i == x) by
   by_cases h : at_ s i = x
   ·rw [beq_iff_eq.2 h, beq_iff_eq.2 (by rw [h])]
   ·rw [beq_false_of_ne h, beq_false_of_ne (by omega)]]
  cases (at_ s i == x) <;> rfl
 ·intro _ n
  simp only [Zf7, Zc3, Int.lt_irrefl, decide_false]
 ·have e : (List.range' 0 s.length).all (fun i => !(at_ s i == x)) = !s.contains x := by
   rw [Bool.eq_iff_iff, Zbp, Bool.not_eq_true', ← Bool.not_eq_true, List.contains_iff_mem]
   constructor
   ·intro h hm
    obtain ⟨i, hi, he⟩ := List.getElem_of_mem hm
    have := h i hi
    rw [ZbU hi, he] at this
    simp at this
   ·intro h i hi
    rw [ZbU hi]
    cases hb : (s[i] == x) with
    | false => rfl
    | true => exact absurd (by rw [← beq_iff_eq.1 hb]; exact List.getElem_mem hi) h
  rw [e]
  cases s.contains x <;> rfl
def ZdN (s : List Nat) (x : Nat) : Nat := match (List.range' 0 s.length).findSome? (fun i => if at_ s i < x then none else some i) with | some i => i | none => s.length
def Zf6 (s : List Nat) (x : Nat) : List Nat := s.take (ZdN s x) ++ [x] ++ s.drop (ZdN s x)
theorem ZIq (s : List Nat) (x : Nat) : ZdN s x ≤ s.length := by
 unfold ZdN
 cases h : (List.range' 0 s.length).findSome? (fun i => if at_ s i < x then none else some i) with
 | none => exact Nat.le_refl _
 | some i =>
  obtain ⟨j, hj, he⟩ := List.exists_of_findSome?_eq_some h
  rw [List.mem_range'] at hj
  obtain ⟨m, hm, rfl⟩ := hj
  split at he
  ·cases he
  ·obtain rfl := Option.some.inj he
   show 0 + 1 * m ≤ _
   omega
theorem Zlr (s : List Nat) (x n : Nat) : (Zf6 s x).count n = s.count n + if x = n then 1 else 0 := by
 unfold Zf6
 have e : (s.take (ZdN s x)).count n + (s.drop (ZdN s x)).count n = s.count n := by rw [← List.count_append, List.take_append_drop]
 rw [List.count_append, List.count_append, List.count_singleton]
 by_cases h : x = n
 ·subst h; simp; omega
 ·rw [if_neg h, beq_false_of_ne h]; simp; omega
theorem Zip (s : List Nat) (x n : Nat) : n ∈ Zf6 s x ↔ n ∈ s ∨ n = x := by
 have h1 := Zlr s x n
 rw [← List.count_pos_iff, ← List.count_pos_iff, h1]
 by_cases h : x = n
 ·subst h; simp
 ·rw [if_neg h]
  constructor
  ·intro h2; exact .inl (by omega)
  ·rintro (h2 | rfl)
   ·omega
   ·exact absurd rfl h
theorem ZfF (s : List Nat) (x : Nat) : (Zf6 s x).length = s.length + 1 := by
 have := ZIq s x
 unfold Zf6
 simp only [List.length_append, List.length_take, List.length_drop, List.length_singleton]; omega
theorem Zk6 (s : List Nat) : (Zca s).map V.noOwn = Zca s := by unfold Zca; rw [List.map_map]; rfl
theorem Zll (s : List Nat) (j : Nat) : (Zca s).take j = Zca (s.take j) := by unfold Zca; rw [List.map_take]
theorem ZlF (s : List Nat) (j : Nat) : (Zca s).drop j = Zca (s.drop j) := by unfold Zca; rw [List.map_drop]
theorem ZkQ (s t : List Nat) : Zca s ++ Zca t = Zca (s ++ t) := by unfold Zca; rw [List.map_append]
theorem Zxc (es : List V) : Zjl .sh es = true := rfl
theorem ZJ3 {s : List Nat} (hs : s.length ≤ 1048576) (hN : 1048580 < N) {x : Nat} (hx : x ∉ s) (k : List V → Option R) : ZGy N (Zca s) .sh (x : Int) k = k (Zca (Zf6 s x)) := by
 rw [ZxE]
 unfold Zqj
 have hx1 : ([.int .i64 (x : Int)] : List V) = Zca [x] := rfl
 simp only [hx1, ZdL, Fl.noOwn, Zxc, Zan]
 refine (Zb4 (β := Nat) (l := fun n i => Zgy N (Zca s) .sh (x : Int) _ n (i : Int)) (len := s.length) (q := fun i => if at_ s i < x then none else some i) (kb := fun i => k (Zca (s.take i ++ [x] ++ s.drop i))) (k1 := k (Zca (s.take s.length ++ [x] ++ s.drop s.length))) ?_ ?_ (show s.length < N by omega)).trans ?_
 ·intro n i hi _
  simp only [Zgy, Zc4, ZdL, Zbh hi, Int.natCast_nonneg, if_true, Int.toNat_natCast, ZmH hi, Zag, Ze3]
  by_cases h : at_ s i < x
  ·rw [decide_eq_true (show ((at_ s i : Nat) : Int) < (x : Int) by omega), if_pos h, ZaH (i := i) (by omega)]
  ·rw [decide_eq_false (show ¬ ((at_ s i : Nat) : Int) < (x : Int) by omega), if_neg h]
   have hne : (((at_ s i : Nat) : Int) == (x : Int)) = false := beq_false_of_ne fun he => hx (by rw [← show at_ s i = x by omega]; exact Zft hi)
   simp only [hne]
   simp only [Zll, ZlF, Zk6, List.drop_zero, List.nil_append, ZkQ, ZdL]
   have hle : (i : Int) ≤ (s.length : Int) := by omega
   simp only [true_and, hle, if_true]
   repeat rw [if_pos (by (try simp only [List.length_append, List.length_take, List.length_drop, List.length_singleton]); omega)]
   rw [List.take_of_length_le (Nat.le_refl _)]
 ·intro _ n
  simp only [Zgy, Zc4, ZdL, Int.lt_irrefl, decide_false]
  simp only [Zll, ZlF, Zk6, List.drop_zero, List.nil_append, ZkQ, ZdL, Int.toNat_natCast]
  rw [if_pos (show (0 : Int) ≤ (s.length : Int) ∧ (s.length : Int) ≤ (s.length : Int) from ⟨by omega, by omega⟩), List.take_of_length_le (Nat.le_refl _)]
  repeat rw [if_pos (by (try simp only [List.length_append, List.length_take, List.length_drop, List.length_singleton]); omega)]
 ·unfold Zf6 ZdN
  cases (List.range' 0 s.length).findSome? (fun i => if at_ s i < x then none else some i) <;> rfl
def ZeV (l : List Nod) : Prop := ∀ i, i < l.length → ∀ j, j < (at_ l i).es.length → 0 ≤ (at_ (at_ l i).es j).2 ∧ (at_ (at_ l i).es j).2 < l.length
def kid (l : List Nod) (x j : Nat) : Nat := (at_ (at_ l x).es j).2.toNat
theorem ZeV.kid {l : List Nod} (h : ZeV l) {x j : Nat} (hx : x < l.length) (hj : j < (at_ l x).es.length) : kid l x j < l.length ∧ (at_ (at_ l x).es j).2 = (kid l x j : Nat) := by
 have := h x hx j hj
 unfold VL.kid
 omega
def ZOB (f : Nat → List Nat → List Nat) (l : List Nod) (x : Nat) (s : List Nat) : Nat → List Nat
 | 0 => s
 | j + 1 => f (kid l x j) (ZOB f l x s j)
def Zlt (l : List Nod) : Nat → Nat → List Nat → List Nat
 | 0, _, s => s
 | M + 1, x, s => if s.contains x then s else ZOB (Zlt l M) l x (Zf6 s x) (at_ l x).es.length
def ZqM (l : List Nod) (M x : Nat) (s : List Nat) (j : Nat) : List Nat := ZOB (Zlt l M) l x s j
theorem Dist.put {len : Nat} {s : List Nat} (h : Dist len s) {x : Nat} (hx : x < len) (hn : s.contains x = false) : Dist len (Zf6 s x) := by
 have hnm : x ∉ s := fun hm => by rw [List.contains_iff_mem.2 hm] at hn; cases hn
 refine ⟨fun n => ?_, fun n hm => ?_⟩
 ·rw [Zlr]
  by_cases hxn : x = n
  ·subst hxn
   rw [if_pos rfl, List.count_eq_zero.2 hnm]; omega
  ·rw [if_neg hxn]; exact h.one n
 ·rcases (Zip s x n).1 hm with h2 | rfl
  ·exact h.lt n h2
  ·exact hx
structure MetOk (l : List Nod) (s r : List Nat) : Prop where
 dist : Dist l.length r
 sub : ∀ n ∈ s, n ∈ r
 len : s.length ≤ r.length
 closed : ∀ n ∈ r, n ∉ s → ∀ j, j < (at_ l n).es.length → kid l n j ∈ r
inductive Reach (l : List Nod) : Nat → Prop where
 | root : Reach l 0
 | step {x j : Nat} : Reach l x → x < l.length → j < (at_ l x).es.length → Reach l (kid l x j)
theorem MetOk.refl {l : List Nod} {s : List Nat} (h : Dist l.length s) : MetOk l s s := ⟨h, fun _ h => h, Nat.le_refl _, fun n h1 h2 => absurd h1 h2⟩
theorem MetOk.trans {l : List Nod} {s r t : List Nat} (h1 : MetOk l s r) (h2 : MetOk l r t) : MetOk l s t :=
 ⟨h2.dist, fun n h => h2.sub n (h1.sub n h), Nat.le_trans h1.len h2.len, fun n hn hs j hj => by
  by_cases hr : n ∈ r
  ·exact h2.sub _ (h1.closed n hr hs j hj)
  ·exact h2.closed n hn hr j hj⟩
theorem Zwg {l : List Nod} (he : ZeV l) : ∀ (M x : Nat) (s : List Nat), x < l.length → Dist l.length s → l.length - s.length < M →
  MetOk l s (Zlt l M x s) ∧ x ∈ Zlt l M x s ∧ ((Reach l x → ∀ n ∈ s, Reach l n) → Reach l x → ∀ n ∈ Zlt l M x s, Reach l n)
 | 0, x, s, _, _, h => by omega
 | M + 1, x, s, hx, hs, hM => by
  rw [show Zlt l (M + 1) x s = if s.contains x then s else ZqM l M x (Zf6 s x) (at_ l x).es.length from rfl]
  cases hc : s.contains x with
  | true => exact ⟨MetOk.refl hs, List.contains_iff_mem.1 hc, fun h1 h2 => h1 h2⟩
  | false =>
   have hd := hs.put hx hc
   have hl := hd.len
   rw [ZfF] at hl
   have hL : ∀ j, j ≤ (at_ l x).es.length → MetOk l (Zf6 s x) (ZqM l M x (Zf6 s x) j) ∧ (∀ i, i < j → kid l x i ∈ ZqM l M x (Zf6 s x) j) ∧
     ((∀ n ∈ s, Reach l n) → Reach l x → ∀ n ∈ ZqM l M x (Zf6 s x) j, Reach l n) := by
    intro j
    induction j with
    | zero =>
     intro _
     rw [show ZqM l M x (Zf6 s x) 0 = Zf6 s x from rfl]
     refine ⟨MetOk.refl hd, fun i hi => by omega, fun h1 h2 n hn => ?_⟩
     rcases (Zip s x n).1 hn with h3 | rfl
     ·exact h1 n h3
     ·exact h2
    | succ j ih =>
     intro hj
     obtain ⟨i1, i2, i3⟩ := ih (by omega)
     have hk := (he.kid hx (show j < (at_ l x).es.length by omega)).1
     have hlen := i1.len
     rw [ZfF] at hlen
     obtain ⟨m1, m2, m3⟩ := Zwg he M (kid l x j) _ hk i1.dist (by omega)
     rw [show ZqM l M x (Zf6 s x) (j + 1) = Zlt l M (kid l x j) (ZqM l M x (Zf6 s x) j) from rfl]
     refine ⟨i1.trans m1, fun i hi => ?_, fun h1 h2 n hn => ?_⟩
     ·rcases Nat.lt_or_ge i j with h3 | h3
      ·exact m1.sub _ (i2 i h3)
      ·obtain rfl : i = j := by omega
       exact m2
     ·exact m3 (fun _ => i3 h1 h2) (Reach.step h2 hx (by omega)) n hn
   obtain ⟨h1, h2, h3⟩ := hL _ (Nat.le_refl _)
   refine ⟨⟨h1.dist, fun n hn => h1.sub n ((Zip s x n).2 (.inl hn)), by have := h1.len; rw [ZfF] at this; simp only [Bool.false_eq_true, if_false]; omega, fun n hn hns j hj => ?_⟩, h1.sub x ((Zip s x x).2 (.inr rfl)), fun h4 h5 => h3 (h4 h5) h5⟩
   by_cases hnx : n = x
   ·subst hnx; exact h2 j hj
   ·exact h1.closed n hn (fun hm => by
     rcases (Zip s x n).1 hm with h6 | h6
     ·exact hns h6
     ·exact hnx h6) j hj
theorem ZC3 {l : List Nod} (hl : Small l) (he : ZeV l) (hN : 1048580 < N) (room : Int) : ∀ (M x : Nat) (s : List Nat) (f : Fl), x < l.length → Dist l.length s → l.length - s.length < M →
  ∀ (k : List V → Option R), ZgM N M R (nodsV l) f room (x : Int) (Zca s) .sh k = k (Zca (Zlt l M x s))
 | 0, x, s, _, _, _, h => by omega
 | M + 1, x, s, f, hx, hs, hM => by
  intro k
  have hll := hl.len
  have hsl := hs.len
  rw [Zyy]
  unfold Zxs
  rw [ZB7 N (by omega) hN, show Zlt l (M + 1) x s = if s.contains x then s else ZqM l M x (Zf6 s x) (at_ l x).es.length from rfl]
  cases hc : s.contains x with
  | true => rfl
  | false =>
   have hnm : x ∉ s := fun hm => by rw [List.contains_iff_mem.2 hm] at hc; cases hc
   have hd := hs.put hx hc
   have hl2 := hd.len
   rw [ZfF] at hl2
   simp only [Fl.noOwn, ZJ3 N (show s.length ≤ 1048576 by omega) hN hnm, Bool.false_eq_true, if_false]
   rw [if_pos (by omega), Int.toNat_natCast, Za9 hx]
   simp only [Zag, Zbw, ZbC]
   have hes := hl.es x hx
   have hmL : ∀ j, j ≤ (at_ l x).es.length → MetOk l (Zf6 s x) (ZqM l M x (Zf6 s x) j) := by
    intro j
    induction j with
    | zero => intro _; rw [show ZqM l M x (Zf6 s x) 0 = Zf6 s x from rfl]; exact MetOk.refl hd
    | succ j ih =>
     intro hj
     have i1 := ih (by omega)
     have hlen := i1.len
     rw [ZfF] at hlen
     rw [show ZqM l M x (Zf6 s x) (j + 1) = Zlt l M (kid l x j) (ZqM l M x (Zf6 s x) j) from rfl]
     exact i1.trans (Zwg he M (kid l x j) _ (he.kid hx (show j < (at_ l x).es.length by omega)).1 i1.dist (by omega)).1
   have e0 : Zca (Zf6 s x) = Zca (ZqM l M x (Zf6 s x) 0) := rfl
   conv => lhs; rw [e0]
   refine ZbX (l := fun n i => Zgz N (ZgM N M) (ZbG (at_ l x).es) _ ((at_ l x).es.length : Int) (nodsV l) f room _ n (Zca (ZqM l M x (Zf6 s x) i)) (i : Int)) (len := (at_ l x).es.length) (k1 := k (Zca (ZqM l M x (Zf6 s x) (at_ l x).es.length))) ?_ ?_ (show (at_ l x).es.length < N by omega)
   ·intro n i hi
    have h1 := hmL i (by omega)
    have h2 := h1.len
    rw [ZfF] at h2
    obtain ⟨h3, h4⟩ := he.kid hx hi
    simp only [Zgz, Zdp, Zbh hi, Int.natCast_nonneg, if_true, Int.toNat_natCast, ZbZ hi, Zag, ZcI, h4]
    rw [ZC3 hl he hN room M (kid l x i) _ _ h3 h1.dist (by omega), ZaH (i := i) (by omega)]
    rw [show ZqM l M x (Zf6 s x) (i + 1) = Zlt l M (kid l x i) (ZqM l M x (Zf6 s x) i) from rfl]
   ·intro n
    simp only [Zgz, Zdp, Int.lt_irrefl, decide_false]
end Go.VM.VL
set_option linter.unusedSimpArgs false
set_option linter.unusedVariables false
namespace Go.VM.VL
open Go
variable {R : Type} (N : Nat)
theorem ZfJ {lo : Int} (hlo : 0 ≤ lo) {l : List Nod} (h : (List.range' 0 l.length).all (fun i => Zkp lo l (at_ l i)) = true) : ZeV l := by
 intro i hi j hj
 have h1 := Zbp.1 h i hi
 unfold Zkp at h1
 split at h1
 ·simp only [ZAB, Bool.and_eq_true, beq_iff_eq] at h1; omega
 ·simp only [Bool.and_eq_true] at h1
  have h2 := h1.2
  unfold ZsC at h2
  split at h2
  ·simp only [Bool.and_eq_true, beq_iff_eq] at h2; omega
  ·split at h2
   ·rw [Bool.and_eq_true] at h2
    have h3 := Zbp.1 h2.2 j hj
    simp only [Zxe, Bool.and_eq_true, Zb3] at h3
    omega
   ·split at h2
    ·simp only [Bool.and_eq_true, beq_iff_eq] at h2; omega
    ·cases h2
def ZeK (l : List Nod) (met : List Nat) (i : Nat) : Bool :=
 !(decide (i = 0) && decide ((Za6 l i l.length : Int) > 0)) && !(decide (i > 0) && ((at_ l i).kind == 2) && !((Za6 l i l.length : Int) == 1)) && !(!((at_ l i).kind == 0) && !met.contains i)
def ZIN (l : List Nod) (room : Int) : Bool :=
 inR (l.length : Int) 1 40 && inR room 0 1000 && !decide ((Zer l l.length : Int) > room) && ((at_ l 0).kind == 2) && (List.range' 0 l.length).all (fun i => Zkp 1 l (at_ l i))
  && (List.range' 0 l.length).all (ZeK l (Zlt l N 0 []))
theorem ZpF {a b : Nat} : ((a : Int) == (b : Int)) = decide (a = b) := by
 by_cases h : a = b
 ·subst h; simp
 ·rw [decide_eq_false h, beq_false_of_ne (by omega)]
theorem ZF8 {l : List Nod} (hl : Small l) (hN : 1048580 < N) (f : Fl) (room : Int) (k : Bool → Option R) : ZHY N (nodsV l) f room k = k (ZIN N l room) := by
 rw [Zyp]
 unfold ZrM ZIN
 have hll := hl.len
 simp only [ZBd, ZbD, ZBS N hl hN]
 cases h1 : inR (l.length : Int) 1 40 with
 | false => rfl
 | true =>
  obtain ⟨h2, h3⟩ := Zb3.1 h1
  cases inR room 0 1000 with
  | false => rfl
  | true =>
   cases decide ((Zer l l.length : Int) > room) with
   | true => rfl
   | false =>
    simp only [Bool.not_true, Bool.true_and, Bool.not_false]
    rw [Za9 (show 0 < l.length by omega)]
    simp only [Zag, Zbw, bne]
    cases h4 : ((at_ l 0).kind == 2) with
    | false => rfl
    | true =>
     simp only [Bool.not_true, Bool.true_and]
     refine (ZcC (l := fun n i => ZfZ N (nodsV l) _ (l.length : Int) (nodsV l) f room _ _ n (i : Int)) (len := l.length) (p := fun i => Zkp 1 l (at_ l i)) (k0 := k false) (k1 := k ((List.range' 0 l.length).all (ZeK l (Zlt l N 0 [])))) ?_ ?_ (show l.length < N by omega)).trans ?_
     ·intro n i hi _
      simp only [ZfZ, Zdc, Zbh hi, Int.natCast_nonneg, if_true, Int.toNat_natCast, Za9 hi, Zag, Zbw, ZGw N hll (hl.nod hi) hN]
      rw [ZaH (i := i) (by omega)]
      cases Zkp 1 l (at_ l i) <;> rfl
     ·intro hall n
      have he : ZeV l := ZfJ (lo := 1) (by omega) (Zbp.2 hall)
      have hd : Dist l.length [] := ⟨fun n => by simp, fun n h => by simp at h⟩
      have hmet := (Zwg he N 0 [] (by omega) hd (by simp; omega)).1
      have hml := hmet.dist.len
      simp only [ZfZ, Zdc, Int.lt_irrefl, decide_false]
      refine (ZC3 N hl he hN room N 0 [] _ (by omega) hd (by simp; omega) _).trans ?_
      refine (ZcC (l := fun n i => Zgk N (Zca (Zlt l N 0 [])) (nodsV l) _ (l.length : Int) (nodsV l) f room _ _ n (i : Int)) (len := l.length) (p := ZeK l (Zlt l N 0 [])) (k0 := k false) (k1 := k true) ?_ ?_ (show l.length < N by omega)).trans ?_
      ·intro n i hi _
       simp only [Zgk, Zdo, Zbh hi, Int.natCast_nonneg, if_true, Int.toNat_natCast, Za9 hi, Zag, Zbw, ZFr N hl hN, ZB7 N (show (Zlt l N 0 []).length ≤ 1048576 by omega) hN]
       rw [ZaH (i := i) (by omega), show ((i : Int) == 0) = decide (i = 0) from ZpF (b := 0), show decide ((i : Int) > 0) = decide (i > 0) by by_cases h : i > 0 <;> simp [h]]
       simp only [bne]
       unfold ZeK
       by_cases h0 : i = 0
       ·rw [decide_eq_true h0, decide_eq_false (p := i > 0) (by omega)]
        cases decide ((Za6 l i l.length : Int) > 0) <;> cases ((at_ l i).kind == 0) <;> cases (Zlt l N 0 []).contains i <;> rfl
       ·rw [decide_eq_false h0, decide_eq_true (p := i > 0) (by omega)]
        cases ((at_ l i).kind == 2) <;> cases ((Za6 l i l.length : Int) == 1) <;> cases ((at_ l i).kind == 0) <;> cases (Zlt l N 0 []).contains i <;> rfl
      ·intro _ n
       simp only [Zgk, Zdo, Int.lt_irrefl, decide_false]
      ·cases (List.range' 0 l.length).all (ZeK l (Zlt l N 0 [])) <;> rfl
     ·cases (List.range' 0 l.length).all (fun i => Zkp 1 l (at_ l i)) <;> rfl
def vec (len : Nat) (g : Nat → Nat) : List V := (List.range' 0 len).map fun x => V.int .i64 (g x : Nat)
theorem Ztp (len : Nat) (g : Nat → Nat) : (vec len g).length = len := by simp [vec]
theorem ZCS {len : Nat} (g : Nat → Nat) {x : Nat} (h : x < len) : nth (vec len g) x = some (.int .i64 (g x : Nat)) := by
 rw [vec, Zei, Zam, List.getElem?_range' h]; simp
theorem ZKN {len : Nat} (g : Nat → Nat) {x : Nat} (h : x < len) (v : Nat) : Za7 (vec len g) x (.int .i64 (v : Int)) = vec len (fun y => if y = x then v else g y) := by
 rw [ZbB]
 apply List.ext_getElem?
 intro j
 rw [List.getElem?_set, Ztp]
 unfold vec
 by_cases hj : j < len
 ·rw [List.getElem?_map, List.getElem?_map, List.getElem?_range' hj]
  by_cases hx : x = j
  ·subst hx; simp [h]
  ·rw [if_neg hx]
   simp only [Option.map_some]
   rw [if_neg (by omega)]
 ·rw [if_neg (by omega), List.getElem?_eq_none (by simp; omega), List.getElem?_eq_none (by simp; omega)]
theorem Zj9 (len : Nat) (g : Nat → Nat) (n : Nat) : (vec len g).map (trimV n) = vec len g := by unfold vec; rw [List.map_map]; rfl
theorem ZCe {len : Nat} {g h : Nat → Nat} (e : ∀ x, x < len → g x = h x) : vec len g = vec len h := by
 unfold vec
 apply List.map_congr_left
 intro x hx
 rw [List.mem_range'] at hx
 obtain ⟨j, hj, rfl⟩ := hx
 rw [e _ (by omega)]
theorem ZKz {l : List Nod} (hl : Small l) (he : ZeV l) (hN : 1048580 < N) {i : Nat} (hi : i < l.length) (e_2 : List V) (f_3 f_7 : Fl) (x_4 x_5 : Int) (e_10 : List V) (f_11 : Fl) (x_12 x_14 x_15 x_16 x_17 x_18 : Int) (w_19 : ByteArray) (e_20 : List V) (f_21 : Fl) (k0 : List V → Option R) :
  Zfx N l.length e_2 f_3 x_4 x_5 (ZbG (at_ l i).es) f_7 ((at_ l i).es.length : Int) e_10 f_11 x_12 x_14 x_15 x_16 x_17 x_18 w_19 e_20 f_21 k0 N 0 (vec l.length fun x => Za6 l x i) = k0 (vec l.length fun x => Za6 l x (i + 1)) := by
 have hes := hl.es i hi
 have hll := hl.len
 refine ZbX (l := fun n j => Zfx N l.length e_2 f_3 x_4 x_5 (ZbG (at_ l i).es) f_7 ((at_ l i).es.length : Int) e_10 f_11 x_12 x_14 x_15 x_16 x_17 x_18 w_19 e_20 f_21 k0 n (j : Int) (vec l.length fun x => Za6 l x i + ZdH (at_ l i).es x j)) (len := (at_ l i).es.length) (k1 := k0 (vec l.length fun x => Za6 l x (i + 1))) ?_ ?_ (show (at_ l i).es.length < N by omega)
 ·intro n j hj
  obtain ⟨h1, h2⟩ := he.kid hi hj
  have h3 := ZiI hl (kid l i j) (Nat.le_of_lt hi)
  have h4 := ZjS (at_ l i).es (kid l i j) j
  simp only [Zfx, Zdh, Zbh hj, Int.natCast_nonneg, if_true, Int.toNat_natCast, ZbZ hj, Zag, ZcI, h2, Nat.zero_add, ZCS _ h1]
  have hlt : ((kid l i j : Nat) : Int) < (l.length : Int) := by omega
  simp only [hlt, true_and, if_true]
  have hcell : ∀ (v : Int) (K : V → List V → Option R), Zbv ((V.int .i64 v).cells.drop 0) K = K (.int .i64 v) [] := fun v K => rfl
  have hput : ∀ (u v : Int), ZbK (.int .i64 u) 0 [.int .i64 v] = some (.int .i64 v) := fun u v => rfl
  simp only [hcell, Ze3, hput]
  rw [ZaH (i := j) (by omega), ZaH (i := Za6 l (kid l i j) i + ZdH (at_ l i).es (kid l i j) j) (by omega)]
  rw [ZKN _ h1, Zj9]
  congr 1
  apply ZCe
  intro x hx
  have e : ZdH (at_ l i).es x (j + 1) = ZdH (at_ l i).es x j + ((at_ (at_ l i).es j).2 == (x : Int)).toNat := rfl
  by_cases hxk : x = kid l i j
  ·subst hxk
   rw [if_pos rfl, e, h2, beq_self_eq_true]; rfl
  ·rw [if_neg hxk, e, h2, beq_false_of_ne (by omega)]; rfl
 ·intro n
  simp only [Zfx, Zdh, Int.lt_irrefl, decide_false, Zj9]
  rfl
theorem ZJG {l : List Nod} (hl : Small l) (he : ZeV l) (hN : 1048580 < N) (f : Fl) (room : Int) (k : List V → Option R) : ZGI N (nodsV l) f room k = k (vec l.length fun x => Za6 l x l.length) := by
 rw [ZwI]
 unfold ZqD
 have hll := hl.len
 rw [ZbD, if_pos ⟨by omega, rfl, by omega⟩, Int.toNat_natCast]
 have e0 : List.replicate l.length (V.int .i64 0) = vec l.length fun x => Za6 l x 0 := by
  unfold vec
  have : ∀ x : Nat, Za6 l x 0 = 0 := fun x => rfl
  simp only [this]
  rw [List.map_const']
  simp
 rw [e0]
 refine ZbX (l := fun n i => ZgJ N l.length (nodsV l) _ (l.length : Int) (nodsV l) f room _ n (i : Int) (vec l.length fun x => Za6 l x i)) (len := l.length) (k1 := k (vec l.length fun x => Za6 l x l.length)) ?_ ?_ (show l.length < N by omega)
 ·intro n i hi
  simp only [ZgJ, Zda, Zbh hi, Int.natCast_nonneg, if_true, Int.toNat_natCast, Za9 hi, Zag, Zbw, ZbC]
  rw [ZKz N hl he hN hi, Zj9, ZaH (i := i) (by omega)]
 ·intro n
  simp only [ZgJ, Zda, Int.lt_irrefl, decide_false, Zj9, List.drop_zero]
  rw [List.take_of_length_le (by rw [Ztp]; exact Nat.le_refl _), Zc6 fun v hv => by
   unfold vec at hv
   obtain ⟨x, _, rfl⟩ := List.mem_map.1 hv
   rfl]
  have hp : (vec l.length fun x => Za6 l x l.length).all V.plain = true := by
   rw [List.all_eq_true]; intro v hv
   unfold vec at hv
   obtain ⟨x, _, rfl⟩ := List.mem_map.1 hv
   rfl
  simp only [hp, Ztp, Nat.zero_add, Nat.le_refl, decide_true, Zan]
end Go.VM.VL
set_option linter.unusedSimpArgs false
set_option linter.unusedVariables false
namespace Go.VM.VL
open Go
variable {R : Type} (N : Nat)
def Zco (l : List Nod) (x : Nat) : Bool := (at_ l x).kind == 2
def Zb7 (l : List Nod) (x : Nat) : Nat → List Nat
 | 0 => []
 | j + 1 => Zb7 l x j ++ (if Zco l (kid l x j) then [kid l x j] else [])
def Zct (l : List Nod) (x : Nat) : List Nat := Zb7 l x (at_ l x).es.length
def bfs (l : List Nod) : Nat → List Nat
 | 0 => [0]
 | x + 1 => if x < (bfs l x).length then bfs l x ++ Zct l (at_ (bfs l x) x) else bfs l x
def ZeT (l : List Nod) (i : Nat) : Bool :=
 if (at_ l i).kind = 0 then true
 else if i = 0 then inR (Za6 l i l.length : Int) 0 0
 else if (at_ l i).kind = 2 then inR (Za6 l i l.length : Int) 1 1
 else inR (Za6 l i l.length : Int) 1 1152921504606846976
theorem ZvA {l : List Nod} (he : ZeV l) {x : Nat} (hx : x < l.length) (n : Nat) : ∀ j, j ≤ (at_ l x).es.length → (Zb7 l x j).count n ≤ (if Zco l n then ZdH (at_ l x).es n j else 0)
 | 0, _ => by simp [Zb7]
 | j + 1, hj => by
  have ih := ZvA he hx n j (by omega)
  have hk := (he.kid hx (show j < (at_ l x).es.length by omega)).2
  have e : ZdH (at_ l x).es n (j + 1) = ZdH (at_ l x).es n j + ((at_ (at_ l x).es j).2 == (n : Int)).toNat := rfl
  rw [Zb7, List.count_append, e, hk]
  by_cases hn : kid l x j = n
  ·subst hn
   rw [beq_self_eq_true]
   cases hd : Zco l (kid l x j) with
   | true => rw [hd] at ih; simp at ih ⊢; omega
   | false => rw [hd] at ih; simp at ih ⊢; exact ih
  ·rw [beq_false_of_ne (by omega : ((kid l x j : Nat) : Int) ≠ (n : Int))]
   have : (if Zco l (kid l x j) = true then [kid l x j] else []).count n = 0 := by
    split
    ·rw [List.count_singleton, beq_false_of_ne hn]; rfl
    ·rfl
   rw [this]
   simpa using ih
theorem ZpY {l : List Nod} {x n : Nat} : ∀ {j}, n ∈ Zb7 l x j ↔ Zco l n = true ∧ ∃ i, i < j ∧ n = kid l x i
 | 0 => by simp [Zb7]
 | j + 1 => by
  rw [Zb7, List.mem_append, ZpY (j := j)]
  constructor
  ·rintro (⟨h1, i, hi, rfl⟩ | h)
   ·exact ⟨h1, i, by omega, rfl⟩
   ·split at h
    ·rename_i hd
     obtain rfl := List.mem_singleton.1 h
     exact ⟨hd, j, by omega, rfl⟩
    ·simp at h
  ·rintro ⟨h1, i, hi, rfl⟩
   rcases Nat.lt_or_ge i j with h2 | h2
   ·exact .inl ⟨h1, i, h2, rfl⟩
   ·obtain rfl : i = j := by omega
    rw [if_pos h1]
    exact .inr (List.mem_singleton.2 rfl)
theorem Zka {l : List Nod} {n : Nat} (h : Zco l n = true) : n < l.length := by
 rcases Nat.lt_or_ge n l.length with h1 | h1
 ·exact h1
 ·unfold Zco at_ at h
  rw [List.getD_eq_getElem?_getD, List.getElem?_eq_none h1] at h
  exact absurd h (by decide)
structure Linked (l : List Nod) : Prop where
 ent : ZeV l
 pos : 0 < l.length
 root : Zco l 0 = true
 link : ∀ i, i < l.length → ZeT l i = true
theorem Linked.le {l : List Nod} (h : Linked l) {n : Nat} (hn : Zco l n = true) : (if n = 0 then 1 else 0) + Za6 l n l.length ≤ 1 := by
 have h1 := h.link n (Zka hn)
 unfold ZeT at h1
 have h2 : (at_ l n).kind = 2 := beq_iff_eq.1 hn
 rw [h2] at h1
 by_cases h0 : n = 0
 ·subst h0
  rw [if_neg (by decide), if_pos rfl, Zb3] at h1
  rw [if_pos rfl]
  omega
 ·rw [if_neg (by decide), if_neg h0, if_pos rfl, Zb3] at h1
  rw [if_neg h0]; omega
theorem Zla (g : Nat → Nat) : ∀ s t : List Nat, Zoq g (s ++ t) = Zoq g s + Zoq g t
 | [], t => by simp [Zoq]
 | a :: s, t => by show g a + Zoq g (s ++ t) = g a + Zoq g s + Zoq g t; rw [Zla g s t]; omega
theorem Dist.take {len : Nat} {s : List Nat} (h : Dist len s) (x : Nat) : Dist len (s.take x) := by
 refine ⟨fun n => ?_, fun n hn => h.lt n (List.mem_of_mem_take hn)⟩
 have e : (s.take x).count n + (s.drop x).count n = s.count n := by rw [← List.count_append, List.take_append_drop]
 have := h.one n
 omega
theorem ZFo {s : List Nat} {x : Nat} (h : x < s.length) : s.take (x + 1) = s.take x ++ [at_ s x] := by
 rw [List.take_succ_eq_append_getElem h, ZbU h]
structure BfsOk (l : List Nod) (x : Nat) : Prop where
 dist : Dist l.length (bfs l x)
 dir : ∀ n ∈ bfs l x, Zco l n = true ∧ Reach l n
 cnt : x ≤ (bfs l x).length → ∀ n, (bfs l x).count n = (if n = 0 then 1 else 0) + Zoq (fun j => (Zct l j).count n) ((bfs l x).take x)
 kids : ∀ i, i < x → i < (bfs l x).length → ∀ n ∈ Zct l (at_ (bfs l x) i), n ∈ bfs l x
 root : 0 ∈ bfs l x
theorem Zp2 {α : Type} [Inhabited α] (s t : List α) {i : Nat} (h : i < s.length) : at_ (s ++ t) i = at_ s i := by
 rw [ZbU h, ZbU (by rw [List.length_append]; omega), List.getElem_append_left h]
theorem Zfy {l : List Nod} (h : Linked l) : ∀ x, BfsOk l x
 | 0 => by
  refine ⟨⟨fun n => ?_, fun n hn => ?_⟩, fun n hn => ?_, fun _ n => ?_, fun i hi => absurd hi (by omega), List.mem_singleton.2 rfl⟩
  ·rw [bfs, List.count_singleton]; split <;> omega
  ·rw [bfs] at hn; obtain rfl := List.mem_singleton.1 hn; exact h.pos
  ·rw [bfs] at hn; obtain rfl := List.mem_singleton.1 hn; exact ⟨h.root, Reach.root⟩
  ·rw [bfs, List.count_singleton]
   simp only [List.take_zero, Zoq]
   by_cases hn : n = 0
   ·subst hn; rfl
   ·rw [if_neg hn, beq_false_of_ne (Ne.symm hn)]; rfl
 | x + 1 => by
  have ih := Zfy h x
  by_cases hx : x < (bfs l x).length
  ·have e : bfs l (x + 1) = bfs l x ++ Zct l (at_ (bfs l x) x) := by rw [bfs, if_pos hx]
   have hm : at_ (bfs l x) x ∈ bfs l x := Zft hx
   have ha := ih.dist.lt _ hm
   have hcnt : ∀ n, (bfs l (x + 1)).count n = (if n = 0 then 1 else 0) + Zoq (fun j => (Zct l j).count n) ((bfs l x).take (x + 1)) := fun n => by
    rw [e, List.count_append, ih.cnt (by omega) n, ZFo hx, Zla]
    simp only [Zoq]; omega
   have hone : ∀ n, (bfs l (x + 1)).count n ≤ 1 := fun n => by
    rw [hcnt n]
    have h1 := (ih.dist.take (x + 1)).sum fun j => (Zct l j).count n
    have h2 : Zbr (fun j => (Zct l j).count n) l.length ≤ if Zco l n then Za6 l n l.length else 0 := by
     have : ∀ m, m ≤ l.length → Zbr (fun j => (Zct l j).count n) m ≤ if Zco l n then Za6 l n m else 0 := by
      intro m
      induction m with
      | zero => intro _; exact Nat.zero_le _
      | succ m ihm =>
       intro hm2
       have i1 := ihm (by omega)
       have i2 := ZvA h.ent (show m < l.length by omega) n _ (Nat.le_refl _)
       show Zbr _ m + (Zct l m).count n ≤ _
       unfold Zct
       unfold Zct at i1
       split
       ·rename_i hd
        rw [if_pos hd] at i1 i2
        show _ ≤ Za6 l n m + ZdH (at_ l m).es n (at_ l m).es.length
        omega
       ·rename_i hd
        rw [if_neg hd] at i1 i2
        omega
     exact this _ (Nat.le_refl _)
    cases hd : Zco l n with
    | true =>
     have h3 := h.le hd
     rw [hd, if_pos rfl] at h2
     omega
    | false =>
     rw [hd] at h2
     simp only [Bool.false_eq_true, if_false] at h2
     split <;> omega
   have hnew : ∀ n ∈ bfs l (x + 1), Zco l n = true ∧ Reach l n := fun n hn => by
    rw [e, List.mem_append] at hn
    rcases hn with hn | hn
    ·exact ih.dir n hn
    ·obtain ⟨h1, i, hi, rfl⟩ := ZpY.1 hn
     exact ⟨h1, Reach.step (ih.dir _ hm).2 ha hi⟩
   refine ⟨⟨hone, fun n hn => Zka (hnew n hn).1⟩, hnew, fun _ n => ?_, fun i hi hil n hn => ?_, ?_⟩
   ·rw [hcnt n, e, List.take_append_of_le_length (by omega)]
   ·rcases Nat.lt_or_ge i x with h1 | h1
    ·rw [e, Zp2 _ _ (by omega)] at hn
     rw [e, List.mem_append]
     exact .inl (ih.kids i h1 (by omega) n hn)
    ·obtain rfl : i = x := by omega
     rw [e, Zp2 _ _ hx] at hn
     rw [e, List.mem_append]
     exact .inr hn
   ·rw [e, List.mem_append]; exact .inl ih.root
  ·have e : bfs l (x + 1) = bfs l x := by rw [bfs, if_neg hx]
   exact ⟨by rw [e]; exact ih.dist, by rw [e]; exact ih.dir, fun h1 => by rw [e] at h1; omega, fun i hi hil n hn => by
    rw [e] at hil hn ⊢
    exact ih.kids i (by omega) hil n hn, by rw [e]; exact ih.root⟩
theorem ZCq {l : List Nod} (h : Linked l) : ∃ X, X ≤ l.length ∧ (bfs l X).length ≤ X ∧ (∀ x, x < X → x < (bfs l x).length) ∧ bfs l l.length = bfs l X := by
 have hlen : ∀ x, (bfs l x).length ≤ l.length := fun x => (Zfy h x).dist.len
 have : ∀ d x, x + d = l.length → (∀ y, y < x → y < (bfs l y).length) → ∃ X, X ≤ l.length ∧ (bfs l X).length ≤ X ∧ (∀ y, y < X → y < (bfs l y).length) := by
  intro d
  induction d with
  | zero => intro x hx hy; exact ⟨x, by omega, by have := hlen x; omega, hy⟩
  | succ d ih =>
   intro x hx hy
   by_cases hc : x < (bfs l x).length
   ·exact ih (x + 1) (by omega) fun y h2 => by
     rcases Nat.lt_or_ge y x with h3 | h3
     ·exact hy y h3
     ·obtain rfl : y = x := by omega
      exact hc
   ·exact ⟨x, by omega, by omega, hy⟩
 obtain ⟨X, h1, h2, h3⟩ := this l.length 0 (by omega) fun y hy => by omega
 refine ⟨X, h1, h2, h3, ?_⟩
 have : ∀ d, bfs l (X + d) = bfs l X := by
  intro d
  induction d with
  | zero => rfl
  | succ d ih =>
   rw [← Nat.add_assoc, bfs, ih, if_neg (by omega)]
 rw [← this (l.length - X), show X + (l.length - X) = l.length by omega]
theorem ZzQ {l : List Nod} (h : Linked l) {a n : Nat} (ha : a ∈ bfs l l.length) (hn : n ∈ Zct l a) : n ∈ bfs l l.length := by
 obtain ⟨X, h1, h2, h3, h4⟩ := ZCq h
 rw [h4] at ha ⊢
 obtain ⟨i, hi, rfl⟩ := List.getElem_of_mem ha
 rw [← ZbU hi] at hn
 exact (Zfy h X).kids i (by omega) hi n hn
end Go.VM.VL
set_option linter.unusedSimpArgs false
set_option linter.unusedVariables false
namespace Go.VM.VL
open Go
variable {R : Type} (N : Nat)
def Zk3 (l : List Nod) (room : Int) : Bool :=
 inR (l.length : Int) 1 40 && inR room 0 1000 && ((at_ l 0).kind == 2) && (List.range' 0 l.length).all (fun i => Zkp 0 l (at_ l i)) && !decide ((Zer l l.length : Int) > room)
  && (List.range' 0 l.length).all (ZeT l) && (List.range' 0 l.length).all (fun i => !Zco l i || (bfs l l.length).contains i)
def Zev (len : Nat) (s : List Nat) : List V := (List.range' 0 len).map fun x => V.bool (s.contains x)
theorem ZHK (len : Nat) (s : List Nat) : (Zev len s).length = len := by simp [Zev]
theorem ZmM {len : Nat} (s : List Nat) {x : Nat} (h : x < len) : nth (Zev len s) x = some (.bool (s.contains x)) := by
 rw [Zev, Zei, Zam, List.getElem?_range' h]; simp
theorem ZGN {len : Nat} (s : List Nat) {x : Nat} (h : x < len) : Za7 (Zev len s) x (.bool true) = Zev len (s ++ [x]) := by
 rw [ZbB]
 apply List.ext_getElem?
 intro j
 rw [List.getElem?_set, ZHK]
 unfold Zev
 by_cases hj : j < len
 ·rw [List.getElem?_map, List.getElem?_map, List.getElem?_range' hj]
  by_cases hx : x = j
  ·subst hx; simp [h]
  ·rw [if_neg hx]
   simp only [Option.map_some, Nat.zero_add, Nat.one_mul]
   congr 2
   have : ∀ t : List Nat, t.contains j = decide (j ∈ t) := fun t => by
    rw [Bool.eq_iff_iff, List.contains_iff_mem, decide_eq_true_eq]
   rw [this, this]
   by_cases hm : j ∈ s
   ·simp [hm]
   ·simp [hm]; omega
 ·rw [if_neg (by omega), List.getElem?_eq_none (by simp; omega), List.getElem?_eq_none (by simp; omega)]
theorem ZkH (len : Nat) (s : List Nat) (n : Nat) : (Zev len s).map (trimV n) = Zev len s := by unfold Zev; rw [List.map_map]; rfl
theorem Zmp {l : List Nod} (h : Linked l) {x : Nat} (hx : x < (bfs l x).length) {n : Nat} (hn : n ∈ Zct l (at_ (bfs l x) x)) : n ∉ bfs l x := by
 intro hm
 have h1 := (Zfy h (x + 1)).dist.one n
 rw [bfs, if_pos hx, List.count_append] at h1
 have h2 := List.count_pos_iff.2 hm
 have h3 := List.count_pos_iff.2 hn
 omega
theorem Zy4 {l : List Nod} (hl : Small l) (h : Linked l) (hN : 1048580 < N) {x : Nat} (hx : x < (bfs l x).length) (z : Int) (f g : Fl) (room : Int) (k0 : List V → List V → Option R) :
  ZfA N l.length z (ZbG (at_ l (at_ (bfs l x) x)).es) f ((at_ l (at_ (bfs l x) x)).es.length : Int) (nodsV l) g room k0 N (Zca (bfs l x)) 0 (Zev l.length ((bfs l x).take (x + 1))) =
   k0 (Zca (bfs l (x + 1))) (Zev l.length ((bfs l x).take (x + 1))) := by
 have hll := hl.len
 have hb := Zfy h x
 have hb1 := (Zfy h (x + 1)).dist.len
 have e1 : bfs l (x + 1) = bfs l x ++ Zct l (at_ (bfs l x) x) := by rw [bfs, if_pos hx]
 rw [e1] at hb1
 have ha := hb.dist.lt _ (Zft hx)
 have hes := hl.es _ ha
 have e0 : Zca (bfs l x) = Zca (bfs l x ++ Zb7 l (at_ (bfs l x) x) 0) := by rw [Zb7, List.append_nil]
 conv => lhs; rw [e0]
 refine ZbX (l := fun n j => ZfA N l.length z (ZbG (at_ l (at_ (bfs l x) x)).es) f ((at_ l (at_ (bfs l x) x)).es.length : Int) (nodsV l) g room k0 n (Zca (bfs l x ++ Zb7 l (at_ (bfs l x) x) j)) (j : Int) (Zev l.length ((bfs l x).take (x + 1)))) (len := (at_ l (at_ (bfs l x) x)).es.length) (k1 := k0 (Zca (bfs l (x + 1))) (Zev l.length ((bfs l x).take (x + 1)))) ?_ ?_ (show (at_ l (at_ (bfs l x) x)).es.length < N by omega)
 ·intro n j hj
  obtain ⟨h1, h2⟩ := h.ent.kid ha hj
  simp only [ZfA, Zdy, Zbh hj, Int.natCast_nonneg, if_true, Int.toNat_natCast, ZbZ hj, Zag, ZcI, h2, Za9 h1, Zbw, ZkH, Nat.zero_add, ZmM _ h1]
  have hlt : ((kid l (at_ (bfs l x) x) j : Nat) : Int) < (l.length : Int) := by omega
  simp only [hlt, true_and, if_true]
  rw [ZaH (i := j) (by omega), Zb7, show ((at_ l (kid l (at_ (bfs l x) x) j)).kind == 2) = Zco l (kid l (at_ (bfs l x) x) j) from rfl]
  cases hd : Zco l (kid l (at_ (bfs l x) x) j) with
  | false => simp
  | true =>
   have hin : kid l (at_ (bfs l x) x) j ∈ Zct l (at_ (bfs l x) x) := ZpY.2 ⟨hd, j, hj, rfl⟩
   have hns := Zmp h hx hin
   have hc : ((bfs l x).take (x + 1)).contains (kid l (at_ (bfs l x) x) j) = false := by
    rw [Bool.eq_false_iff, ne_eq, List.contains_iff_mem]
    exact fun hm => hns (List.mem_of_mem_take hm)
   have hcell : ∀ (v : Bool) (K : V → List V → Option R), Zbv ((V.bool v).cells.drop 0) K = K (.bool v) [] := fun v K => rfl
   simp only [hcell, Zkw, hc, Bool.not_false, if_true]
   have hlen : (bfs l x ++ Zb7 l (at_ (bfs l x) x) j).length ≤ 1048576 := by
    have : (Zb7 l (at_ (bfs l x) x) j).length ≤ (at_ l (at_ (bfs l x) x)).es.length := by
     have : ∀ m, (Zb7 l (at_ (bfs l x) x) m).length ≤ m := by
      intro m
      induction m with
      | zero => exact Nat.le_refl _
      | succ m ih =>
       rw [Zb7, List.length_append]
       split <;> simp <;> omega
     have := this j
     omega
    rw [List.length_append] at hb1 ⊢
    have hbl := hb.dist.len
    have hpre : (Zb7 l (at_ (bfs l x) x) j).length ≤ (Zct l (at_ (bfs l x) x)).length := by
     have : ∀ m d, (Zb7 l (at_ (bfs l x) x) m).length ≤ (Zb7 l (at_ (bfs l x) x) (m + d)).length := by
      intro m d
      induction d with
      | zero => exact Nat.le_refl _
      | succ d ih =>
       rw [← Nat.add_assoc, Zb7, List.length_append]; omega
     have := this j ((at_ l (at_ (bfs l x) x)).es.length - j)
     rwa [show j + ((at_ l (at_ (bfs l x) x)).es.length - j) = (at_ l (at_ (bfs l x) x)).es.length by omega] at this
    omega
   rw [ZdL, if_pos (by omega)]
   rw [show ([.int .i64 ((kid l (at_ (bfs l x) x) j : Nat) : Int)] : List V) = Zca [kid l (at_ (bfs l x) x) j] from rfl, ZkQ, List.append_assoc]
 ·intro n
  simp only [ZfA, Zdy, Int.lt_irrefl, decide_false, ZkH]
  rw [e1]; rfl
theorem ZzE {l : List Nod} (hl : Small l) (h : Linked l) (hN : 1048580 < N) (f : Fl) (room : Int) (k0 : List V → Option R) :
  Zfi N l.length (nodsV l) f room k0 N [.int .i64 0] 0 (List.replicate l.length (.bool false)) = k0 (Zev l.length (bfs l l.length)) := by
 have hll := hl.len
 obtain ⟨X, h1, h2, h3, h4⟩ := ZCq h
 have e0 : List.replicate l.length (V.bool false) = Zev l.length ((bfs l 0).take 0) := by
  unfold Zev
  simp [List.map_const']
 rw [e0]
 refine ZbX (l := fun n x => Zfi N l.length (nodsV l) f room k0 n (Zca (bfs l x)) (x : Int) (Zev l.length ((bfs l x).take x))) (len := X) (k1 := k0 (Zev l.length (bfs l l.length))) ?_ ?_ (show X < N by omega)
 ·intro n x hx
  have hxl := h3 x hx
  have hm : at_ (bfs l x) x ∈ bfs l x := Zft hxl
  have ha := (Zfy h x).dist.lt _ hm
  have hput : ∀ b : Bool, ZbK (.bool b) 0 [.bool true] = some (.bool true) := fun b => rfl
  have hlt : ((at_ (bfs l x) x : Nat) : Int) < (l.length : Int) := by omega
  simp only [Zfi, Zc9, ZdL, Zbh hxl, Int.natCast_nonneg, if_true, Int.toNat_natCast, ZmH hxl, Zag, Ze3, Nat.zero_add, ZmM _ ha, hput, hlt, true_and, Za9 ha, Zbw, ZGN _ ha, ZbC]
  rw [← ZFo hxl, Zy4 N hl h hN hxl, ZaH (i := x) (by omega)]
  congr 2
  rw [bfs, if_pos hxl, List.take_append_of_le_length (by omega)]
 ·intro n
  simp only [Zfi, Zc9, ZdL]
  rw [decide_eq_false (by omega), h4, List.take_of_length_le h2]
theorem Zqz {l : List Nod} (h0 : 0 < l.length) (hk : ((at_ l 0).kind == 2) = true) (hn : (List.range' 0 l.length).all (fun i => Zkp 0 l (at_ l i)) = true) (hlk : (List.range' 0 l.length).all (ZeT l) = true) : Linked l :=
 ⟨ZfJ (Int.le_refl 0) hn, h0, hk, fun i hi => Zbp.1 hlk i hi⟩
theorem ZGx {l : List Nod} (hl : Small l) (hN : 1048580 < N) (f : Fl) (room : Int) (k : Bool → Option R) : ZHB N (nodsV l) f room k = k (Zk3 l room) := by
 rw [Zwb]
 unfold ZqI Zk3
 rw [Zxm]
 unfold Zph
 have hll := hl.len
 simp only [ZAY, ZbD]
 cases h1 : inR (l.length : Int) 1 40 with
 | false => rfl
 | true =>
  obtain ⟨h2, h3⟩ := Zb3.1 h1
  cases inR room 0 1000 with
  | false => rfl
  | true =>
   simp only [Bool.not_true, Bool.true_and]
   rw [Za9 (show 0 < l.length by omega)]
   simp only [Zag, Zbw, bne]
   cases h4 : ((at_ l 0).kind == 2) with
   | false => rfl
   | true =>
    simp only [Bool.not_true, Bool.true_and]
    refine (ZcC (l := fun n i => ZgB N (nodsV l) _ (l.length : Int) (nodsV l) f room _ _ n (i : Int)) (len := l.length) (p := fun i => Zkp 0 l (at_ l i)) (k0 := k false) (k1 := k (!decide ((Zer l l.length : Int) > room) && (List.range' 0 l.length).all (ZeT l) && (List.range' 0 l.length).all (fun i => !Zco l i || (bfs l l.length).contains i))) ?_ ?_ (show l.length < N by omega)).trans ?_
    ·intro n i hi _
     simp only [ZgB, Zdn, Zbh hi, Int.natCast_nonneg, if_true, Int.toNat_natCast, Za9 hi, Zag, Zbw, ZIU N hll (hl.nod hi) hN]
     rw [ZaH (i := i) (by omega)]
     cases Zkp 0 l (at_ l i) <;> rfl
    ·intro hall n
     have he : ZeV l := ZfJ (Int.le_refl 0) (Zbp.2 hall)
     simp only [ZgB, Zdn, Int.lt_irrefl, decide_false, ZBq N hl hN]
     cases decide ((Zer l l.length : Int) > room) with
     | true => rfl
     | false =>
      simp only [ZJG N hl he hN, Bool.not_false, Bool.true_and]
      refine (ZcC (l := fun n i => Zgt N (vec l.length fun x => Za6 l x l.length) (nodsV l) _ (l.length : Int) (nodsV l) f room _ _ n (i : Int)) (len := l.length) (p := ZeT l) (k0 := k false) (k1 := k ((List.range' 0 l.length).all (fun i => !Zco l i || (bfs l l.length).contains i))) ?_ ?_ (show l.length < N by omega)).trans ?_
      ·intro n i hi _
       simp only [Zgt, Zdw, Zbh hi, Int.natCast_nonneg, if_true, Int.toNat_natCast, Za9 hi, Zag, Zbw, ZCS _ hi, Ze3, ZAY, bne]
       rw [ZaH (i := i) (by omega), show ((i : Int) == 0) = decide (i = 0) from ZpF (b := 0)]
       unfold ZeT
       by_cases hk : (at_ l i).kind = 0
       ·rw [if_pos hk, hk]
        cases decide (i = 0) <;> rfl
       ·rw [if_neg hk, beq_false_of_ne hk]
        by_cases h0 : i = 0
        ·subst h0
         rw [if_pos rfl]
         show (match !inR (Za6 l 0 l.length : Int) 0 0 with | true => k false | false => _) = _
         cases inR (Za6 l 0 l.length : Int) 0 0 <;> rfl
        ·rw [if_neg h0, decide_eq_false h0]
         have hm : (if (1 : Int) < (i : Int) then (1 : Int) else (i : Int)) = 1 := by split <;> omega
         simp only [hm]
         by_cases hd : (at_ l i).kind = 2
         ·rw [if_pos hd, beq_iff_eq.2 hd]
          cases inR (Za6 l i l.length : Int) 1 1 <;> rfl
         ·rw [if_neg hd, beq_false_of_ne hd]
          cases inR (Za6 l i l.length : Int) 1 1152921504606846976 <;> rfl
      ·intro hlk n
       have hL : Linked l := Zqz (by omega) h4 (Zbp.2 hall) (Zbp.2 hlk)
       simp only [Zgt, Zdw, Int.lt_irrefl, decide_false]
       rw [if_pos ⟨by omega, trivial, by omega⟩, Int.toNat_natCast, ZzE N hl hL hN]
       refine (ZcC (l := fun n i => ZgE N l.length (nodsV l) _ (l.length : Int) (nodsV l) f room _ _ n (i : Int) (Zev l.length (bfs l l.length))) (len := l.length) (p := fun i => !Zco l i || (bfs l l.length).contains i) (k0 := k false) (k1 := k true) ?_ ?_ (show l.length < N by omega)).trans ?_
       ·intro n i hi _
        have hcell : ∀ (v : Bool) (K : V → List V → Option R), Zbv ((V.bool v).cells.drop 0) K = K (.bool v) [] := fun v K => rfl
        have hlt : (i : Int) < (l.length : Int) := by omega
        simp only [ZgE, ZdD, Zbh hi, Int.natCast_nonneg, if_true, Int.toNat_natCast, Za9 hi, Zag, Zbw, Nat.zero_add, ZmM _ hi, hcell, Zkw, hlt, true_and, ZkH]
        rw [ZaH (i := i) (by omega), show ((at_ l i).kind == 2) = Zco l i from rfl]
        cases Zco l i <;> cases (bfs l l.length).contains i <;> rfl
       ·intro _ n
        simp only [ZgE, ZdD, Int.lt_irrefl, decide_false]
       ·cases (List.range' 0 l.length).all (fun i => !Zco l i || (bfs l l.length).contains i) <;> rfl
      ·cases (List.range' 0 l.length).all (ZeT l) <;> rfl
    ·cases (List.range' 0 l.length).all (fun i => Zkp 0 l (at_ l i)) <;> rfl
end Go.VM.VL
set_option linter.unusedSimpArgs false
set_option linter.unusedVariables false
namespace Go.VM.VL
open Go
variable {R : Type} (N : Nat)
theorem ZEq {lo : Int} {l : List Nod} {n : Nod} (h : Zkp lo l n = true) (he : 0 < n.es.length) : n.kind = 2 := by
 unfold Zkp at h
 split at h
 ·simp only [ZAB, Bool.and_eq_true, beq_iff_eq] at h; omega
 ·simp only [Bool.and_eq_true] at h
  have h2 := h.2
  unfold ZsC at h2
  split at h2
  ·simp only [Bool.and_eq_true, beq_iff_eq] at h2; omega
  ·split at h2
   ·rename_i h3; exact h3
   ·split at h2
    ·simp only [Bool.and_eq_true, beq_iff_eq] at h2; omega
    ·cases h2
theorem ZID {l : List Nod} {es : List Ent} {j : Nat} (h : Zxe 1 l es j = true) : Zxe 0 l es j = true := by
 simp only [Zxe, Bool.and_eq_true, Zb3] at h ⊢
 exact ⟨h.1, ⟨by omega, h.2.1.2⟩, h.2.2⟩
theorem ZJJ {l : List Nod} {es : List Ent} {j : Nat} (h : Zxe 0 l es j = true) (h0 : (at_ es j).2 ≠ 0) : Zxe 1 l es j = true := by
 simp only [Zxe, Bool.and_eq_true, Zb3] at h ⊢
 exact ⟨h.1, ⟨by omega, h.2.1.2⟩, h.2.2⟩
theorem Zyo {a b : Int} {l : List Nod} {n : Nod} (h : Zkp a l n = true) (he : ∀ j, j < n.es.length → Zxe a l n.es j = true → Zxe b l n.es j = true) : Zkp b l n = true := by
 unfold Zkp at h ⊢
 split at h
 ·rename_i h0; rw [if_pos h0]; exact h
 ·rename_i h0
  rw [if_neg h0]
  rw [Bool.and_eq_true] at h ⊢
  refine ⟨h.1, ?_⟩
  have h2 := h.2
  unfold ZsC at h2 ⊢
  split at h2
  ·rename_i h3; rw [if_pos h3]; exact h2
  ·rename_i h3
   rw [if_neg h3]
   split at h2
   ·rename_i h4
    rw [if_pos h4]
    rw [Bool.and_eq_true] at h2 ⊢
    exact ⟨h2.1, Zbp.2 fun j hj => he j hj (Zbp.1 h2.2 j hj)⟩
   ·rename_i h4
    rw [if_neg h4]; exact h2
theorem Ze2 (es : List Ent) (x : Int) : ∀ {n}, 0 < ZdH es x n ↔ ∃ j, j < n ∧ (at_ es j).2 = x
 | 0 => by simp [ZdH, Zbr]
 | n + 1 => by
  have ih := Ze2 es x (n := n)
  have e : ZdH es x (n + 1) = ZdH es x n + ((at_ es n).2 == x).toNat := rfl
  rw [e]
  constructor
  ·intro h
   by_cases h1 : 0 < ZdH es x n
   ·obtain ⟨j, hj, h2⟩ := ih.1 h1
    exact ⟨j, by omega, h2⟩
   ·cases hb : ((at_ es n).2 == x) with
    | true => exact ⟨n, by omega, beq_iff_eq.1 hb⟩
    | false => rw [hb] at h; simp at h; omega
  ·rintro ⟨j, hj, h2⟩
   rcases Nat.lt_or_ge j n with h3 | h3
   ·have := ih.2 ⟨j, h3, h2⟩; omega
   ·obtain rfl : j = n := by omega
    rw [beq_iff_eq.2 h2]; simp
theorem ZhM (l : List Nod) (x : Int) : ∀ {n}, 0 < Za6 l x n ↔ ∃ i, i < n ∧ ∃ j, j < (at_ l i).es.length ∧ (at_ (at_ l i).es j).2 = x
 | 0 => by simp [Za6, Zbr]
 | n + 1 => by
  have ih := ZhM l x (n := n)
  have e : Za6 l x (n + 1) = Za6 l x n + ZdH (at_ l n).es x (at_ l n).es.length := rfl
  rw [e]
  constructor
  ·intro h
   by_cases h1 : 0 < Za6 l x n
   ·obtain ⟨i, hi, h2⟩ := ih.1 h1
    exact ⟨i, by omega, h2⟩
   ·exact ⟨n, by omega, (Ze2 _ _).1 (by omega)⟩
  ·rintro ⟨i, hi, h2⟩
   rcases Nat.lt_or_ge i n with h3 | h3
   ·have := ih.2 ⟨i, h3, h2⟩; omega
   ·obtain rfl : i = n := by omega
    have := (Ze2 (at_ l i).es x).2 h2; omega
theorem ZOm {l : List Nod} (he : ZeV l) (h0 : 0 < l.length) {i : Nat} (h : Reach l i) : i < l.length := by
 cases h with
 | root => exact h0
 | step _ hx hj => exact (he.kid hx hj).1
theorem ZAv {l : List Nod} (he : ZeV l) {i : Nat} (h : Reach l i) (h0 : i ≠ 0) : 0 < Za6 l i l.length := by
 cases h with
 | root => exact absurd rfl h0
 | @step x j _ hx hj => exact (ZhM l _).2 ⟨x, hx, j, hj, (he.kid hx hj).2⟩
theorem Zqo {l : List Nod} (he : ZeV l) (h0 : 0 < l.length) (hN : l.length < N) {i : Nat} : Reach l i ↔ i ∈ Zlt l N 0 [] := by
 have hd : Dist l.length [] := ⟨fun n => by simp, fun n h => by simp at h⟩
 obtain ⟨h1, h2, h3⟩ := Zwg he N 0 [] h0 hd (by simp; omega)
 constructor
 ·intro h
  induction h with
  | root => exact h2
  | step _ hx hj ih => exact h1.closed _ ih (by simp) _ hj
 ·intro h
  exact h3 (fun _ n hn => by simp at hn) Reach.root i h
theorem ZJt {l : List Nod} (hl : Small l) (hN : 1048580 < N) (room : Int) : ZIN N l room = Zk3 l room := by
 have hll := hl.len
 rw [Bool.eq_iff_iff]
 unfold ZIN Zk3
 simp only [Bool.and_eq_true, Zbp]
 constructor
 ·rintro ⟨⟨⟨⟨⟨h1, h2⟩, h3⟩, h4⟩, h5⟩, h6⟩
  have hpos : 0 < l.length := by have := (Zb3.1 h1).1; omega
  have h5' : ∀ i, i < l.length → Zkp 0 l (at_ l i) = true := fun i hi => Zyo (h5 i hi) fun j _ h => ZID h
  have he : ZeV l := ZfJ (Int.le_refl 0) (Zbp.2 h5')
  have hmet := fun {i} => Zqo N he hpos (by omega) (i := i)
  have h6' : ∀ i, i < l.length → (i = 0 → Za6 l i l.length = 0) ∧ (0 < i → Zco l i = true → Za6 l i l.length = 1) ∧ ((at_ l i).kind ≠ 0 → Reach l i) := by
   intro i hi
   have := h6 i hi
   unfold ZeK at this
   simp only [Bool.and_eq_true, Bool.not_eq_true', Bool.and_eq_false_iff, decide_eq_false_iff_not, beq_eq_false_iff_ne, Bool.not_eq_false', beq_iff_eq] at this
   obtain ⟨⟨a1, a2⟩, a3⟩ := this
   refine ⟨fun h0 => ?_, fun h0 hd => ?_, fun hk => ?_⟩
   ·rcases a1 with a1 | a1
    ·exact absurd h0 a1
    ·omega
   ·rcases a2 with (a2 | a2) | a2
    ·exact absurd h0 a2
    ·exact absurd (beq_iff_eq.1 hd) a2
    ·omega
   ·rcases a3 with a3 | a3
    ·exact absurd a3 hk
    ·exact hmet.2 (List.contains_iff_mem.1 a3)
  have hlk : ∀ i, i < l.length → ZeT l i = true := by
   intro i hi
   obtain ⟨a1, a2, a3⟩ := h6' i hi
   unfold ZeT
   split
   ·rfl
   ·rename_i hk
    split
    ·rename_i h0; rw [Zb3]; have := a1 h0; omega
    ·rename_i h0
     split
     ·rename_i hd; rw [Zb3]; have := a2 (by omega) (beq_iff_eq.2 hd); omega
     ·rw [Zb3]
      have b1 := ZAv he (a3 hk) h0
      have b2 := ZiI hl i (Nat.le_refl l.length)
      omega
  have hL : Linked l := ⟨he, hpos, h4, hlk⟩
  refine ⟨⟨⟨⟨⟨⟨h1, h2⟩, h4⟩, h5'⟩, h3⟩, hlk⟩, fun i hi => ?_⟩
  cases hd : Zco l i with
  | false => rfl
  | true =>
   have hk : (at_ l i).kind ≠ 0 := by
    have := beq_iff_eq.1 hd
    omega
   have hr := (h6' i hi).2.2 hk
   have : ∀ x, Reach l x → Zco l x = true → x ∈ bfs l l.length := by
    intro x hx
    induction hx with
    | root => intro _; exact (Zfy hL _).root
    | @step y j hy hyl hj ih =>
     intro hd2
     have hyd : Zco l y = true := beq_iff_eq.2 (ZEq (h5' y hyl) (by omega))
     exact ZzQ hL (ih hyd) (ZpY.2 ⟨hd2, j, hj, rfl⟩)
   rw [Bool.not_true, Bool.false_or, List.contains_iff_mem]
   exact this i hr hd
 ·rintro ⟨⟨⟨⟨⟨⟨h1, h2⟩, h4⟩, h5⟩, h3⟩, hlk⟩, h7⟩
  have hpos : 0 < l.length := by have := (Zb3.1 h1).1; omega
  have he : ZeV l := ZfJ (Int.le_refl 0) (Zbp.2 h5)
  have hL : Linked l := ⟨he, hpos, h4, hlk⟩
  have hmet := fun {i} => Zqo N he hpos (by omega) (i := i)
  have hroot : (at_ l 0).kind = 2 := beq_iff_eq.1 h4
  have hl0 : Za6 l 0 l.length = 0 := by
   have := hL.le (n := 0) h4
   rw [if_pos rfl] at this
   have e : Za6 l ((0 : Nat) : Int) l.length = Za6 l 0 l.length := rfl
   omega
  have h5' : ∀ i, i < l.length → Zkp 1 l (at_ l i) = true := fun i hi => Zyo (h5 i hi) fun j hj h => ZJJ h fun h0 => by
   have := (ZhM l 0).2 ⟨i, hi, j, hj, h0⟩
   omega
  refine ⟨⟨⟨⟨⟨h1, h2⟩, h3⟩, h4⟩, h5'⟩, fun i hi => ?_⟩
  have hdir : Zco l i = true → Reach l i := fun hd => by
   have := h7 i hi
   rw [hd, Bool.not_true, Bool.false_or, List.contains_iff_mem] at this
   exact ((Zfy hL _).dir i this).2
  have hreach : (at_ l i).kind ≠ 0 → Reach l i := fun hk => by
   cases hd : Zco l i with
   | true => exact hdir hd
   | false =>
    have h0 : i ≠ 0 := fun h0 => by
     subst h0
     rw [show Zco l 0 = true from h4] at hd; cases hd
    have hlki := hlk i hi
    unfold ZeT at hlki
    rw [if_neg hk, if_neg h0, if_neg (fun h2 => by rw [show Zco l i = true from beq_iff_eq.2 h2] at hd; cases hd), Zb3] at hlki
    obtain ⟨x, hx, j, hj, hxj⟩ := (ZhM l i).1 (show 0 < Za6 l i l.length by omega)
    have hxd : Zco l x = true := beq_iff_eq.2 (ZEq (h5 x hx) (by omega))
    have hxb := h7 x hx
    rw [hxd, Bool.not_true, Bool.false_or, List.contains_iff_mem] at hxb
    have hxr := ((Zfy hL _).dir x hxb).2
    have : i = kid l x j := by unfold kid; omega
    rw [this]
    exact Reach.step hxr hx hj
  have hlki := hlk i hi
  unfold ZeK
  unfold ZeT at hlki
  simp only [Bool.and_eq_true, Bool.not_eq_true', Bool.and_eq_false_iff, decide_eq_false_iff_not, beq_eq_false_iff_ne, Bool.not_eq_false', beq_iff_eq]
  refine ⟨⟨?_, ?_⟩, ?_⟩
  ·by_cases h0 : i = 0
   ·subst h0
    have e : Za6 l ((0 : Nat) : Int) l.length = Za6 l 0 l.length := rfl
    exact .inr (by omega)
   ·exact .inl h0
  ·by_cases h0 : i = 0
   ·exact .inl (.inl (by omega))
   ·by_cases hd : (at_ l i).kind = 2
    ·rw [if_neg (by omega), if_neg h0, if_pos hd, Zb3] at hlki
     exact .inr (by omega)
    ·exact .inl (.inr hd)
  ·by_cases hk : (at_ l i).kind = 0
   ·exact .inl hk
   ·exact .inr (List.contains_iff_mem.2 (hmet.1 (hreach hk)))
end Go.VM.VL
set_option linter.unusedSimpArgs false
set_option linter.unusedVariables false
namespace Go.VM.VL
open Go
variable {R : Type} (N : Nat)
def ZiA (cu cg mode uid gid : Int) : Int :=
 if cu = uid then Int.fdiv mode (2 ^ (min (6 : Int).toNat 64))
 else if cg = gid then ZrW (Int.fdiv mode (2 ^ (min (3 : Int).toNat 64))) 7
 else ZrW mode 7
def ZrV (cu cg mode uid gid want : Int) : Bool := decide (cu = 0) || (ZIu want (ZiA cu cg mode uid gid) == 0)
theorem ZAq {cu cg mode uid gid : Int} (h : 0 ≤ mode ∧ mode ≤ 511) : 0 ≤ ZiA cu cg mode uid gid ∧ ZiA cu cg mode uid gid < 8 := by
 obtain ⟨m, rfl⟩ := Int.eq_ofNat_of_zero_le h.1
 have hm : m ≤ 511 := by omega
 have f6 : Int.fdiv (m : Int) (2 ^ (min (6 : Int).toNat 64)) = ((m / 64 : Nat) : Int) := by
  show Int.fdiv (m : Int) ((64 : Nat) : Int) = _
  rw [Int.fdiv_eq_ediv_of_nonneg _ (by omega)]; rfl
 have f3 : Int.fdiv (m : Int) (2 ^ (min (3 : Int).toNat 64)) = ((m / 8 : Nat) : Int) := by
  show Int.fdiv (m : Int) ((8 : Nat) : Int) = _
  rw [Int.fdiv_eq_ediv_of_nonneg _ (by omega)]; rfl
 have b7 : ∀ n : Nat, n ≤ 511 → 0 ≤ ZrW (n : Int) 7 ∧ ZrW (n : Int) 7 < 8 := by
  intro n hn
  have := ZGn (a := n) (b := 7) (by omega)
  have h2 : (n &&& 7 % 18446744073709551616) ≤ 7 := Nat.and_le_right
  have e : ZrW (n : Int) ((7 : Nat) : Int) = ZrW (n : Int) 7 := rfl
  rw [e] at this
  rw [this]
  omega
 unfold ZiA
 split
 ·rw [f6]; omega
 ·split
  ·rw [f3]; exact b7 _ (by omega)
  ·exact b7 m hm
theorem ZCz : ∀ b w : Fin 8, (ZIu (w.val : Int) (b.val : Int) == 0) = (ZrW (b.val : Int) (w.val : Int) == (w.val : Int)) := by decide +kernel
theorem ZKO {b w : Int} (hb : 0 ≤ b ∧ b < 8) (hw : 0 ≤ w ∧ w ≤ 7) : (ZIu w b == 0) = (ZrW b w == w) := by
 obtain ⟨m, rfl⟩ := Int.eq_ofNat_of_zero_le hb.1
 obtain ⟨n, rfl⟩ := Int.eq_ofNat_of_zero_le hw.1
 exact ZCz ⟨m, by omega⟩ ⟨n, by omega⟩
theorem ZiN (cu cg mode uid gid want : Int) (k : Bool → Option R) : ZGr N cu cg mode uid gid want k = k (ZrV cu cg mode uid gid want) := by
 rw [Zxp]
 unfold ZpM ZrV ZiA
 by_cases h0 : cu = 0
 ·simp [h0]
 ·rw [beq_false_of_ne h0]
  by_cases h1 : cu = uid
  ·subst h1; simp [h0, ZIu, ZrW]
  ·rw [beq_false_of_ne h1]
   by_cases h2 : cg = gid
   ·subst h2; simp [h0, h1, ZIu, ZrW]
   ·rw [beq_false_of_ne h2]
    simp [h0, h1, h2, ZIu, ZrW]
theorem Ziz {cu cg mode uid gid want : Int} (hm : 0 ≤ mode ∧ mode ≤ 511) (hw : 0 ≤ want ∧ want ≤ 7) (k : Bool → Option R) : ZFD N cu cg mode uid gid want k = k (ZrV cu cg mode uid gid want) := by
 rw [Zym]
 unfold Zpm ZrV
 rw [ZKO (ZAq hm) hw]
 unfold ZiA
 by_cases h0 : cu = 0
 ·simp [h0]
 ·rw [beq_false_of_ne h0]
  by_cases h1 : cu = uid
  ·subst h1; simp [h0, ZIu, ZrW]
  ·rw [beq_false_of_ne h1]
   by_cases h2 : cg = gid
   ·subst h2; simp [h0, h1, ZIu, ZrW]
   ·rw [beq_false_of_ne h2]
    simp [h0, h1, h2, ZIu, ZrW]
structure Fine (l : List Nod) : Prop where
 small : Small l
 pos : 0 < l.length
 len : l.length ≤ 40
 ent : ZeV l
 mode : ∀ i, i < l.length → 0 ≤ (at_ l i).mode ∧ (at_ l i).mode ≤ 511
 link : ∀ i, i < l.length → (at_ l i).kind = 3 → ZfY (at_ l i).data = true
theorem ZDp {l : List Nod} (hl : Small l) {room : Int} (h : Zk3 l room = true) : Fine l := by
 unfold Zk3 at h
 simp only [Bool.and_eq_true, Zbp] at h
 obtain ⟨⟨⟨⟨⟨⟨h1, h2⟩, h4⟩, h5⟩, h3⟩, hlk⟩, h7⟩ := h
 have h1' := Zb3.1 h1
 refine ⟨hl, by omega, by omega, ZfJ (Int.le_refl 0) (Zbp.2 h5), fun i hi => ?_, fun i hi hk => ?_⟩
 ·have := h5 i hi
  unfold Zkp at this
  split at this
  ·simp only [ZAB, Bool.and_eq_true, beq_iff_eq] at this; omega
  ·simp only [Bool.and_eq_true, Zb3] at this; omega
 ·have := h5 i hi
  unfold Zkp ZsC at this
  rw [if_neg (by omega), if_neg (by omega), if_neg (by omega), if_pos hk] at this
  simp only [Bool.and_eq_true] at this
  exact this.2.1
def Zbg (es : List Ent) (w : ByteArray) : Int := match (List.range' 0 es.length).findSome? (fun j => if (at_ es j).1.toList == w.toList then some (at_ es j).2 else none) with | some x => x | none => -1
theorem Zit {l : List Nod} (he : ZeV l) {a : Nat} (ha : a < l.length) (w : ByteArray) (h : ¬ Zbg (at_ l a).es w < 0) : (Zbg (at_ l a).es w).toNat < l.length ∧ Zbg (at_ l a).es w = ((Zbg (at_ l a).es w).toNat : Nat) := by
 unfold Zbg at h ⊢
 cases hq : (List.range' 0 (at_ l a).es.length).findSome? (fun j => if (at_ (at_ l a).es j).1.toList == w.toList then some (at_ (at_ l a).es j).2 else none) with
 | none => rw [hq] at h; exact absurd (by decide) h
 | some x =>
  obtain ⟨j, hj, hx⟩ := List.exists_of_findSome?_eq_some hq
  rw [List.mem_range'] at hj
  obtain ⟨m, hm, rfl⟩ := hj
  split at hx
  ·obtain rfl := Option.some.inj hx
   have := he a ha (0 + 1 * m) (by omega)
   simp only
   omega
  ·cases hx
theorem ZJc {es : List Ent} (hes : es.length ≤ 1048576) (hN : 1048580 < N) (f : Fl) (w : ByteArray) (k : Int → Option R) : ZFc N (ZbG es) f w k = k (Zbg es w) := by
 rw [ZwO]
 unfold Zq2
 rw [ZbC]
 refine (Zb4 (β := Int) (l := fun n i => Zgr N w (ZbG es) _ (es.length : Int) _ _ n (i : Int)) (len := es.length) (q := fun j => if (at_ es j).1.toList == w.toList then some (at_ es j).2 else none) (kb := k) (k1 := k (-1)) ?_ ?_ (show es.length < N by omega)).trans ?_
 ·intro n i hi _
  simp only [Zgr, ZcZ, Zbh hi, Int.natCast_nonneg, if_true, Int.toNat_natCast, ZbZ hi, Zag, ZcI]
  rw [ZaH (i := i) (by omega)]
  cases ((at_ es i).1.toList == w.toList) <;> rfl
 ·intro _ n
  simp only [Zgr, ZcZ, Int.lt_irrefl, decide_false]
 ·unfold Zbg
  generalize (List.range' 0 es.length).findSome? _ = o
  cases o <;> rfl
theorem ZEc {l : List Nod} (hl : Small l) (hN : 1048580 < N) {a : Nat} (ha : a < l.length) (f : Fl) (room : Int) (w : ByteArray) (k : Int → Option R) : ZER N (nodsV l) f room (a : Int) w k = k (Zbg (at_ l a).es w) := by
 rw [Zwv]
 unfold Zru
 have hes := hl.es a ha
 rw [if_pos (by omega), Int.toNat_natCast, Za9 ha]
 simp only [Zag, Zbw, ZbC]
 refine (Zb4 (β := Int) (l := fun n i => Zf5 N w (ZbG (at_ l a).es) _ ((at_ l a).es.length : Int) (nodsV l) f room _ _ n (i : Int)) (len := (at_ l a).es.length) (q := fun j => if (at_ (at_ l a).es j).1.toList == w.toList then some (at_ (at_ l a).es j).2 else none) (kb := k) (k1 := k (-1)) ?_ ?_ (show (at_ l a).es.length < N by omega)).trans ?_
 ·intro n i hi _
  simp only [Zf5, Zdf, Zbh hi, Int.natCast_nonneg, if_true, Int.toNat_natCast, ZbZ hi, Zag, ZcI]
  rw [ZaH (i := i) (by omega)]
  cases ((at_ (at_ l a).es i).1.toList == w.toList) <;> rfl
 ·intro _ n
  simp only [Zf5, Zdf, Int.lt_irrefl, decide_false]
 ·unfold Zbg
  generalize (List.range' 0 (at_ l a).es.length).findSome? _ = o
  cases o <;> rfl
def ZeL (es : List Ent) (x : Int) : Option ByteArray := (List.range' 0 es.length).findSome? (fun j => if (at_ es j).2 == x then some (at_ es j).1 else none)
def ZcR (l : List Nod) (x : Int) (i : Nat) : Option (Nat × ByteArray) := match ZeL (at_ l i).es x with | some w => some (i, w) | none => none
def Zcz (l : List Nod) (x : Int) : Nat × ByteArray := match (List.range' 0 l.length).findSome? (ZcR l x) with | some p => p | none => (0, ByteArray.mk #[])
theorem ZCX {l : List Nod} (h0 : 0 < l.length) (x : Int) : (Zcz l x).1 < l.length := by
 unfold Zcz
 cases hq : (List.range' 0 l.length).findSome? (ZcR l x) with
 | none => exact h0
 | some p =>
  obtain ⟨j, hj, hx⟩ := List.exists_of_findSome?_eq_some hq
  rw [List.mem_range'] at hj
  obtain ⟨m, hm, rfl⟩ := hj
  unfold ZcR at hx
  split at hx
  ·obtain rfl := Option.some.inj hx
   show 0 + 1 * m < _
   omega
  ·cases hx
theorem ZH7 (es : List Ent) (hes : es.length ≤ 1048576) (hN : 1048580 < N) (x x_2 : Int) (e_3 : List V) (f_4 : Fl) (x_5 x_6 : Int) (f_8 : Fl) (e_11 : List V) (f_12 : Fl) (x_13 x_14 x_15 x_16 x_17 x_18 : Int) (w_19 : ByteArray) (e_20 : List V) (f_21 : Fl) (a : Option R) (b : ByteArray → Option R) :
  Zfo N x x_2 e_3 f_4 x_5 x_6 (ZbG es) f_8 (es.length : Int) e_11 f_12 x_13 x_14 x_15 x_16 x_17 x_18 w_19 e_20 f_21 b (fun _ => a) N 0 = match ZeL es x with | some w => b w | none => a := by
 refine (Zb4 (β := ByteArray) (l := fun n i => Zfo N x x_2 e_3 f_4 x_5 x_6 (ZbG es) f_8 (es.length : Int) e_11 f_12 x_13 x_14 x_15 x_16 x_17 x_18 w_19 e_20 f_21 b (fun _ => a) n (i : Int)) (len := es.length) (q := fun j => if (at_ es j).2 == x then some (at_ es j).1 else none) (kb := b) (k1 := a) ?_ ?_ (show es.length < N by omega)).trans ?_
 ·intro n i hi _
  simp only [Zfo, Zdz, Zbh hi, Int.natCast_nonneg, if_true, Int.toNat_natCast, ZbZ hi, Zag, ZcI]
  rw [ZaH (i := i) (by omega)]
  cases ((at_ es i).2 == x) <;> rfl
 ·intro _ n
  simp only [Zfo, Zdz, Int.lt_irrefl, decide_false]
 ·unfold ZeL
  generalize (List.range' 0 es.length).findSome? _ = o
  cases o <;> rfl
theorem ZAW (es : List Ent) (hes : es.length ≤ 1048576) (hN : 1048580 < N) (x x_2 : Int) (e_3 : List V) (f_4 : Fl) (x_5 x_6 : Int) (f_8 : Fl) (e_11 : List V) (f_12 : Fl) (x_13 x_14 x_15 x_16 x_17 x_18 : Int) (w_19 : ByteArray) (e_20 : List V) (f_21 : Fl) (a b : Option R) :
  ZeW N x x_2 e_3 f_4 x_5 x_6 (ZbG es) f_8 (es.length : Int) e_11 f_12 x_13 x_14 x_15 x_16 x_17 x_18 w_19 e_20 f_21 (fun _ => b) (fun _ => a) N 0 = match ZeL es x with | some _ => b | none => a := by
 refine (Zb4 (β := ByteArray) (l := fun n i => ZeW N x x_2 e_3 f_4 x_5 x_6 (ZbG es) f_8 (es.length : Int) e_11 f_12 x_13 x_14 x_15 x_16 x_17 x_18 w_19 e_20 f_21 (fun _ => b) (fun _ => a) n (i : Int)) (len := es.length) (q := fun j => if (at_ es j).2 == x then some (at_ es j).1 else none) (kb := fun _ => b) (k1 := a) ?_ ?_ (show es.length < N by omega)).trans ?_
 ·intro n i hi _
  simp only [ZeW, Zc2, Zbh hi, Int.natCast_nonneg, if_true, Int.toNat_natCast, ZbZ hi, Zag, ZcI]
  rw [ZaH (i := i) (by omega)]
  cases ((at_ es i).2 == x) <;> rfl
 ·intro _ n
  simp only [ZeW, Zc2, Int.lt_irrefl, decide_false]
 ·unfold ZeL
  generalize (List.range' 0 es.length).findSome? _ = o
  cases o <;> rfl
theorem Zwi {l : List Nod} (hl : Small l) (hN : 1048580 < N) (f : Fl) (room x : Int) (k : Int → ByteArray → Option R) : ZDd N (nodsV l) f room x k = k ((Zcz l x).1 : Nat) (Zcz l x).2 := by
 rw [Zyt]
 unfold ZqP
 have hll := hl.len
 rw [ZbD]
 refine (Zb4 (β := Nat × ByteArray) (l := fun n i => ZgI N x (nodsV l) _ (l.length : Int) (nodsV l) f room _ _ n (i : Int)) (len := l.length) (q := ZcR l x) (kb := fun p => k (p.1 : Nat) p.2) (k1 := k 0 (ByteArray.mk #[])) ?_ ?_ (show l.length < N by omega)).trans ?_
 ·intro n i hi _
  simp only [ZgI, ZdF, Zbh hi, Int.natCast_nonneg, if_true, Int.toNat_natCast, Za9 hi, Zag, Zbw, ZbC]
  rw [ZH7 N _ (hl.es i hi) hN, ZaH (i := i) (by omega)]
  unfold ZcR
  cases ZeL (at_ l i).es x <;> rfl
 ·intro _ n
  simp only [ZgI, ZdF, Int.lt_irrefl, decide_false]
 ·unfold Zcz
  cases (List.range' 0 l.length).findSome? (ZcR l x) <;> rfl
theorem ZlG {l : List Nod} (hl : Small l) (hN : 1048580 < N) (f : Fl) (room x : Int) (k : Int → Option R) : ZFl N (nodsV l) f room x k = k ((Zcz l x).1 : Nat) := by
 rw [ZxM]
 unfold ZrH
 have hll := hl.len
 rw [ZbD]
 refine (Zb4 (β := Nat × ByteArray) (l := fun n i => Zf0 N x (nodsV l) _ (l.length : Int) (nodsV l) f room _ _ n (i : Int)) (len := l.length) (q := ZcR l x) (kb := fun p => k (p.1 : Nat)) (k1 := k 0) ?_ ?_ (show l.length < N by omega)).trans ?_
 ·intro n i hi _
  simp only [Zf0, Zdk, Zbh hi, Int.natCast_nonneg, if_true, Int.toNat_natCast, Za9 hi, Zag, Zbw, ZbC]
  rw [ZAW N _ (hl.es i hi) hN, ZaH (i := i) (by omega)]
  unfold ZcR
  cases ZeL (at_ l i).es x <;> rfl
 ·intro _ n
  simp only [Zf0, Zdk, Int.lt_irrefl, decide_false]
 ·unfold Zcz
  cases (List.range' 0 l.length).findSome? (ZcR l x) <;> rfl
end Go.VM.VL
set_option linter.unusedSimpArgs false
set_option linter.unusedVariables false
namespace Go.VM.VL
open Go
variable {R : Type} (N : Nat)
def ZgF (w : ByteArray) : Bool := ((at_ (bl w) 0).toNat : Int) == 47
def Zjm (fol : Bool) (l : List Nod) (cu cg : Int) (p : ByteArray) (rest : List ByteArray) (a h : Nat) : Int ⊕ (List ByteArray × Nat × Nat) :=
 if (at_ l a).kind ≠ 2 then .inl 3
 else if ZrV cu cg (at_ l a).mode (at_ l a).uid (at_ l a).gid 1 = false then .inl 4
 else if ZrO p then .inr (rest, a, h)
 else if Zd6 p then .inr (rest, (Zcz l a).1, h)
 else if Zbg (at_ l a).es p < 0 then .inl 2
 else if (at_ l (Zbg (at_ l a).es p).toNat).kind ≠ 3 then .inr (rest, (Zbg (at_ l a).es p).toNat, h)
 else if rest.length = 0 ∧ fol = false then .inr (rest, (Zbg (at_ l a).es p).toNat, h)
 else if h = 8 then .inl 5
 else .inr (ZbJ (at_ l (Zbg (at_ l a).es p).toNat).data ++ rest, if ZgF (at_ l (Zbg (at_ l a).es p).toNat).data then 0 else a, h + 1)
def ZcJ (fol : Bool) (l : List Nod) (cu cg : Int) : Nat → List ByteArray → Nat → Nat → Option (Int ⊕ Nat)
 | 0, _, _, _ => none
 | n + 1, [], a, h => some (.inr a)
 | n + 1, p :: rest, a, h => match Zjm fol l cu cg p rest a h with
  | .inl c => some (.inl c)
  | .inr (L, a', h') => ZcJ fol l cu cg n L a' h'
def far (L : List ByteArray) (h : Nat) : Nat := (8 - h) * 62 + L.length
theorem Zl9 {fol : Bool} {l : List Nod} (hf : Fine l) {cu cg : Int} {p : ByteArray} {rest : List ByteArray} {a h : Nat} (ha : a < l.length) (hh : h ≤ 8) :
  match Zjm fol l cu cg p rest a h with
  | .inl c => c ≠ 0
  | .inr (L, a', h') => a' < l.length ∧ h' ≤ 8 ∧ far L h' < far (p :: rest) h := by
 unfold Zjm
 by_cases h1 : (at_ l a).kind ≠ 2
 ·rw [if_pos h1]; exact (show (3 : Int) ≠ 0 by decide)
 rw [if_neg h1]
 by_cases h2 : ZrV cu cg (at_ l a).mode (at_ l a).uid (at_ l a).gid 1 = false
 ·rw [if_pos h2]; exact (show (4 : Int) ≠ 0 by decide)
 rw [if_neg h2]
 have hless : far rest h < far (p :: rest) h := by unfold far; rw [List.length_cons]; omega
 cases ZrO p with
 | true => rw [if_pos rfl]; exact ⟨ha, hh, hless⟩
 | false =>
 rw [if_neg (by simp)]
 cases Zd6 p with
 | true => rw [if_pos rfl]; exact ⟨ZCX hf.pos _, hh, hless⟩
 | false =>
 rw [if_neg (by simp)]
 by_cases h3 : Zbg (at_ l a).es p < 0
 ·rw [if_pos h3]; exact (show (2 : Int) ≠ 0 by decide)
 rw [if_neg h3]
 obtain ⟨h4, h5⟩ := Zit hf.ent ha p h3
 by_cases h6 : (at_ l (Zbg (at_ l a).es p).toNat).kind ≠ 3
 ·rw [if_pos h6]; exact ⟨h4, hh, hless⟩
 rw [if_neg h6]
 by_cases h7 : rest.length = 0 ∧ fol = false
 ·rw [if_pos h7]; exact ⟨h4, hh, hless⟩
 rw [if_neg h7]
 by_cases h8 : h = 8
 ·rw [if_pos h8]; exact (show (5 : Int) ≠ 0 by decide)
 rw [if_neg h8]
 have hp := hf.link _ h4 (by omega)
 have hs := Zcw hp
 have hl := Zcr (at_ l (Zbg (at_ l a).es p).toNat).data
 refine ⟨?_, by omega, ?_⟩
 ·split
  ·exact hf.pos
  ·exact ha
 ·unfold far
  rw [List.length_append, List.length_cons]
  obtain ⟨d, hd⟩ : ∃ d, 8 - h = d + 1 := ⟨8 - h - 1, by omega⟩
  rw [hd, show 8 - (h + 1) = d by omega, Nat.succ_mul]
  omega
theorem Zyg {fol : Bool} {l : List Nod} (hf : Fine l) {cu cg : Int} : ∀ (n : Nat) (L : List ByteArray) (a h : Nat), a < l.length → h ≤ 8 → far L h < n → ∃ r, ZcJ fol l cu cg n L a h = some r
 | 0, _, _, _, _, _, h => by omega
 | n + 1, [], a, h, _, _, _ => ⟨_, rfl⟩
 | n + 1, p :: rest, a, h, ha, hh, hn => by
  have := Zl9 hf ha hh (fol := fol) (cu := cu) (cg := cg) (p := p) (rest := rest)
  rw [ZcJ]
  cases hs : Zjm fol l cu cg p rest a h with
  | inl c => exact ⟨_, rfl⟩
  | inr t =>
   obtain ⟨L, a', h'⟩ := t
   rw [hs] at this
   exact Zyg hf n L a' h' this.1 this.2.1 (by have := this.2.2; omega)
theorem ZIV {g : Fl} (h : g.noOwn = .sh) : g.noOwn.noOwn = .sh ∧ (∀ es, Zjl g es = true) := by
 cases g with
 | own e => exact ⟨rfl, fun _ => rfl⟩
 | sh => exact ⟨rfl, fun _ => rfl⟩
 | bor => cases h
theorem ZlJ (s : List ByteArray) (j : Nat) : (ZaM s).drop j = ZaM (s.drop j) := by unfold ZaM; rw [List.map_drop]
theorem Zpu (s t : List ByteArray) : ZaM s ++ ZaM t = ZaM (s ++ t) := by unfold ZaM; rw [List.map_append]
theorem Zf1 (s : List ByteArray) : (ZaM s).map V.noOwn = ZaM s := by unfold ZaM; rw [List.map_map]; rfl
theorem ZJQ {l : List Nod} (hf : Fine l) {a : Nat} (ha : a < l.length) (f : Fl) (room cu cg : Int) (k : Bool → Option R) :
  ZAo N (nodsV l) f room cu cg (a : Int) 1 k = k (ZrV cu cg (at_ l a).mode (at_ l a).uid (at_ l a).gid 1) := by
 rw [Zkk]
 unfold ZkT
 rw [if_pos (by omega), Int.toNat_natCast, Za9 ha]
 simp only [Zag, Zbw, Ziz N (hf.mode a ha) (show (0 : Int) ≤ 1 ∧ (1 : Int) ≤ 7 by omega)]
theorem ZLa {l : List Nod} {a : Nat} (ha : a < l.length) (f : Fl) (room cu cg : Int) (k : Bool → Option R) :
  Zur N (nodsV l) f room cu cg (a : Int) 1 k = k (ZrV cu cg (at_ l a).mode (at_ l a).uid (at_ l a).gid 1) := by
 rw [Zkd]
 unfold ZkZ
 rw [if_pos (by omega), Int.toNat_natCast, Za9 ha]
 simp only [Zag, Zbw, ZiN]
theorem Zu2 {l : List Nod} {a : Nat} (ha : a < l.length) (f : Fl) (room : Int) (k : Bool → Option R) : Zpf N (nodsV l) f room (a : Int) k = k ((at_ l a).kind == 2) := by
 rw [ZnH]
 unfold ZlO
 rw [if_pos (by omega), Int.toNat_natCast, Za9 ha]
 simp only [Zag, Zbw]
theorem Zja {w : ByteArray} (h : ZfY w = true) (k : Int → Option R) : ZbP w 0 k = k ((at_ (bl w) 0).toNat : Int) := by
 have := Zcw h
 rw [show (0 : Int) = ((0 : Nat) : Int) from rfl, ZbH w (by rw [← Zbo]; omega)]
theorem ZBh {l : List Nod} (hf : Fine l) (hN : 1048580 < N) (fol : Bool) {p : ByteArray} {rest : List ByteArray} {a h : Nat} (ha : a < l.length) (hh : h ≤ 8) (hr : rest.length ≤ 1000) (f : Fl) {g : Fl} (hg : g.noOwn = .sh) (room cu cg : Int)
  (K : Int → List V → Fl → Int → Int → Int → Int → List V → Fl → Int → Option R) (ke : Int → Option R) (hK : ∀ c, c ≠ 0 → ∀ a b c1 d e f g h i, K c a b c1 d e f g h i = ke c) :
  ∃ g' : Fl, g'.noOwn = .sh ∧ Zz4 N fol (nodsV l) f room cu cg (a : Int) (ZaM (p :: rest)) g (h : Int) K = match Zjm fol l cu cg p rest a h with
   | .inl c => ke c
   | .inr (L, a', h') => K 0 (nodsV l) f room cu cg (a' : Nat) (ZaM L) g' (h' : Nat) := by
 rw [ZxW]
 unfold ZpZ Zjm
 rw [if_pos (by omega), Int.toNat_natCast, Za9 ha]
 simp only [Zag, Zbw, ZJQ N hf ha]
 obtain ⟨hg1, hg2⟩ := ZIV hg
 have hsh : Fl.noOwn .sh = .sh := rfl
 have e1 : (((ZaM (p :: rest)).take (ZaM (p :: rest)).length).drop 1) = ZaM rest := by rw [List.take_of_length_le (Nat.le_refl _), ZlJ]; rfl
 rw [e1, show nth (ZaM (p :: rest)) 0 = some (.str p) from rfl]
 simp only [Zag, Zcv]
 rw [show (p.toList == (ByteArray.mk #[46]).toList) = ZrO p from rfl, show (p.toList == (ByteArray.mk #[46, 46]).toList) = Zd6 p from rfl]
 have e2 : (0 : Int) ≤ 1 ∧ (1 : Int) ≤ ((ZaM (p :: rest)).length : Int) := by rw [Zbl, List.length_cons]; omega
 simp only [if_pos e2]
 by_cases h1 : (at_ l a).kind = 2
 case neg =>
  refine ⟨.sh, rfl, ?_⟩
  rw [if_pos h1, bne_iff_ne.2 h1]
  exact hK 3 (by decide) _ _ _ _ _ _ _ _ _
 rw [if_neg (show ¬ (at_ l a).kind ≠ 2 from fun h => h h1), h1]
 cases h2 : ZrV cu cg (at_ l a).mode (at_ l a).uid (at_ l a).gid 1 with
 | false =>
  refine ⟨.sh, rfl, ?_⟩
  rw [if_pos (show false = false from rfl)]
  exact hK 4 (by decide) _ _ _ _ _ _ _ _ _
 | true =>
 rw [if_neg (show ¬ (true = false) by decide)]
 simp only [bne_self_eq_false, Bool.not_true]
 cases ZrO p with
 | true => exact ⟨g.noOwn.noOwn, by rw [hg1]; rfl, rfl⟩
 | false =>
 rw [if_neg (show ¬ (false = true) by decide)]
 simp only
 cases Zd6 p with
 | true =>
  refine ⟨g.noOwn.noOwn, by rw [hg1]; rfl, ?_⟩
  rw [if_pos (show true = true from rfl)]
  simp only
  rw [ZlG N hf.small hN]
 | false =>
 rw [if_neg (show ¬ (false = true) by decide)]
 simp only
 rw [ZJc N (hf.small.es a ha) hN]
 by_cases h3 : Zbg (at_ l a).es p < 0
 ·refine ⟨.sh, rfl, ?_⟩
  rw [if_pos h3, decide_eq_true h3]
  exact hK 2 (by decide) _ _ _ _ _ _ _ _ _
 rw [if_neg h3, decide_eq_false h3]
 obtain ⟨h4, h5⟩ := Zit hf.ent ha p h3
 simp only
 rw [if_pos (by omega), Za9 h4]
 simp only [Zag, Zbw]
 by_cases h6 : (at_ l (Zbg (at_ l a).es p).toNat).kind = 3
 case neg =>
  refine ⟨g.noOwn.noOwn, by rw [hg1]; rfl, ?_⟩
  rw [if_pos h6, bne_iff_ne.2 h6]
  simp only
  rw [← h5]
 rw [if_neg (show ¬ (at_ l (Zbg (at_ l a).es p).toNat).kind ≠ 3 from fun h => h h6), h6]
 have hp := hf.link _ h4 h6
 have hs := Zcw hp
 have hpl := Zcr (at_ l (Zbg (at_ l a).es p).toNat).data
 simp only [bne_self_eq_false, Zbl]
 have hlink : ∀ ks : Fl, (match ((h : Int) == 8) with
      | true => K 5 (nodsV l) f room cu cg (a : Int) (ZaM rest) g.noOwn.noOwn (h : Int)
      | false => Zlh N (at_ l (Zbg (at_ l a).es p).toNat).data fun e24 => Zan (Zjl g.noOwn.noOwn.noOwn.noOwn (ZaM rest)) ((if (e24.length + rest.length) * 16 ≤ 140737488355328 then ZbP (at_ l (Zbg (at_ l a).es p).toNat).data 0 fun n25 => (match (n25 == 47) with
         | true => K 0 (nodsV l) f room cu cg 0 (e24 ++ (ZaM rest).map V.noOwn) ks (IntKind.i64.wrap ((h : Int) + 1))
         | false => K 0 (nodsV l) f room cu cg (a : Int) (e24 ++ (ZaM rest).map V.noOwn) ks (IntKind.i64.wrap ((h : Int) + 1))) else none))) =
    match (if h = 8 then (Sum.inl 5 : Int ⊕ (List ByteArray × Nat × Nat)) else .inr (ZbJ (at_ l (Zbg (at_ l a).es p).toNat).data ++ rest, if ZgF (at_ l (Zbg (at_ l a).es p).toNat).data then 0 else a, h + 1)) with
   | .inl c => ke c
   | .inr (L, a', h') => K 0 (nodsV l) f room cu cg (a' : Nat) (ZaM L) ks (h' : Nat) := by
  intro ks
  by_cases h8 : h = 8
  ·subst h8
   exact hK 5 (by decide) _ _ _ _ _ _ _ _ _
  ·rw [if_neg h8, beq_false_of_ne (by omega : (h : Int) ≠ 8)]
   simp only [Zfm N (show (at_ l (Zbg (at_ l a).es p).toNat).data.size ≤ 1048576 by omega) hN]
   rw [hg1, hsh, hsh, Zxc, if_pos (by rw [Zbl]; omega), Zja hp, Zf1, Zpu, ZaH (i := h) (by omega)]
   unfold ZgF
   cases (((at_ (bl (at_ l (Zbg (at_ l a).es p).toNat).data) 0).toNat : Int) == 47) <;> rfl
 by_cases h7 : rest.length = 0
 ·have hc0 : ((rest.length : Int) == 0) = true := by rw [h7]; rfl
  rw [hc0]
  cases fol with
  | false =>
   refine ⟨g.noOwn.noOwn, by rw [hg1]; rfl, ?_⟩
   rw [if_pos (show rest.length = 0 ∧ false = false from ⟨h7, rfl⟩)]
   simp only
   rw [← h5]
   rfl
  | true =>
   refine ⟨.own 9, rfl, ?_⟩
   rw [if_neg (show ¬ (rest.length = 0 ∧ true = false) from fun hc => by cases hc.2)]
   exact (hlink (.own 9))
 ·refine ⟨.own 9, rfl, ?_⟩
  rw [if_neg (show ¬ (rest.length = 0 ∧ fol = false) from fun hc => h7 hc.1), beq_false_of_ne (by omega : (rest.length : Int) ≠ 0)]
  exact (hlink (.own 9))
end Go.VM.VL
set_option linter.unusedSimpArgs false
set_option linter.unusedVariables false
namespace Go.VM.VL
open Go
variable {R : Type} (N : Nat)
def ZOo (ke : Int → Option R) (ka : Nat → Option R) : Option (Int ⊕ Nat) → Option R
 | none => none
 | some (.inl c) => ke c
 | some (.inr a) => ka a
theorem Zqk {l : List Nod} (hf : Fine l) (hN : 1048580 < N) (b1 b2 : Bool) (e_3 : List V) (f_4 : Fl) (x_5 x_6 x_7 : Int) (f : Fl) (room cu cg : Int) (ke : Int → Option R) (ka : Int → Option R) :
  ∀ (n : Nat) (L : List ByteArray) (a h : Nat) (g : Fl), g.noOwn = .sh → a < l.length → h ≤ 8 → far L h ≤ 800 →
   ZeH N b1 b2 e_3 f_4 x_5 x_6 x_7 (fun x44 _ _ _ _ _ _ _ _ _ => ke x44) (fun _ _ _ _ _ x59 _ _ _ => ka x59) n (nodsV l) f room cu cg (a : Int) (ZaM L) g (h : Int)
    = ZOo ke (fun a => ka (a : Nat)) (ZcJ (b1 || b2) l cu cg n L a h)
 | 0, L, a, h, g, _, _, _, _ => rfl
 | n + 1, [], a, h, g, _, _, _, _ => rfl
 | n + 1, p :: rest, a, h, g, hg, ha, hh, hfar => by
  have hr : rest.length ≤ 1000 := by unfold far at hfar; rw [List.length_cons] at hfar; omega
  have hso := Zl9 hf ha hh (fol := b1 || b2) (cu := cu) (cg := cg) (p := p) (rest := rest)
  obtain ⟨g', hg', hstep⟩ := ZBh (R := R) N hf hN (b1 || b2) (p := p) (rest := rest) ha hh hr f hg room cu cg
   (fun x24 e25 f26 x27 x28 x29 x30 e31 f32 x33 => (match (x24 != 0) with
    | true => ke x24
    | false => ZeH N b1 b2 e_3 f_4 x_5 x_6 x_7 (fun x44 _ _ _ _ _ _ _ _ _ => ke x44) (fun _ _ _ _ _ x59 _ _ _ => ka x59) n e25 f26 x27 x28 x29 x30 e31 f32 x33)) ke
   (fun c hc a b c1 d e f g h i => by rw [bne_iff_ne.2 hc])
  have hlhs : ZeH N b1 b2 e_3 f_4 x_5 x_6 x_7 (fun x44 _ _ _ _ _ _ _ _ _ => ke x44) (fun _ _ _ _ _ x59 _ _ _ => ka x59) (n + 1) (nodsV l) f room cu cg (a : Int) (ZaM (p :: rest)) g (h : Int)
    = Zz4 N (b1 || b2) (nodsV l) f room cu cg (a : Int) (ZaM (p :: rest)) g (h : Int) (fun x24 e25 f26 x27 x28 x29 x30 e31 f32 x33 => (match (x24 != 0) with
    | true => ke x24
    | false => ZeH N b1 b2 e_3 f_4 x_5 x_6 x_7 (fun x44 _ _ _ _ _ _ _ _ _ => ke x44) (fun _ _ _ _ _ x59 _ _ _ => ka x59) n e25 f26 x27 x28 x29 x30 e31 f32 x33)) := by
   simp only [ZeH, Zeg, Zbl, List.length_cons]
   rw [decide_eq_true (by omega)]
   cases b1 <;> rfl
  rw [hlhs, hstep, ZcJ]
  cases hs : Zjm (b1 || b2) l cu cg p rest a h with
  | inl c => rfl
  | inr t =>
   obtain ⟨L', a', h'⟩ := t
   rw [hs] at hso
   exact Zqk hf hN b1 b2 e_3 f_4 x_5 x_6 x_7 f room cu cg ke ka n L' a' h' g' hg' hso.1 hso.2.1 (by have := hso.2.2; omega)
theorem ZFv (hN : 1048580 < N) {a b : List ByteArray} (ha : a.length ≤ 1048577) (hb : b.length ≤ 1048577) (f : Fl) (k : List V → Option R) :
  ZzB N [.list 1 (ZaM a) .sh, .list 1 (ZaM b) .sh] f k = k (ZaM (a ++ b)) := by
 rw [Zxf]
 unfold Zo7
 obtain ⟨M, hM⟩ : ∃ M, N = M + 3 := ⟨N - 3, by omega⟩
 have w1 : IntKind.i64.wrap (0 + (a.length : Int)) = a.length := Zbf (by omega) (by omega) |>.trans (by omega)
 have w2 : IntKind.i64.wrap ((a.length : Int) + (b.length : Int)) = ((a.length + b.length : Nat) : Int) := Zbf (by omega) (by omega)
 have hl1 : ∀ (k0 : Int → Option R), Zfr N [.list 1 (ZaM a) .sh, .list 1 (ZaM b) .sh] f [.list 1 (ZaM a) .sh, .list 1 (ZaM b) .sh] f.noOwn 2 k0 N 0 0 = k0 ((a.length + b.length : Nat) : Int) := by
  intro k0
  refine ZbX (l := fun n i => Zfr N [.list 1 (ZaM a) .sh, .list 1 (ZaM b) .sh] f [.list 1 (ZaM a) .sh, .list 1 (ZaM b) .sh] f.noOwn 2 k0 n ((if i = 0 then 0 else if i = 1 then a.length else a.length + b.length : Nat) : Int) (i : Int)) (len := 2) (k1 := k0 ((a.length + b.length : Nat) : Int)) ?_ ?_ (show 2 < N by omega)
  ·intro n i hi
   rcases (show i = 0 ∨ i = 1 by omega) with rfl | rfl
   ·show (match decide (IntKind.i64.wrap (0 + ((ZaM a).length : Int)) < 0) with | true => none | false => Zfr N _ f _ _ 2 k0 n (IntKind.i64.wrap (0 + ((ZaM a).length : Int))) _) = _
    rw [Zbl, w1, decide_eq_false (by omega)]
    rfl
   ·show (match decide (IntKind.i64.wrap ((a.length : Int) + ((ZaM b).length : Int)) < 0) with | true => none | false => Zfr N _ f _ _ 2 k0 n (IntKind.i64.wrap ((a.length : Int) + ((ZaM b).length : Int))) _) = _
    rw [Zbl, w2, decide_eq_false (by omega)]
    rfl
  ·intro n
   rfl
 have hl2 : ∀ (k0 : List V → Option R), Zfp N [.list 1 (ZaM a) .sh, .list 1 (ZaM b) .sh] f.noOwn 2 k0 N [] 0 = k0 (ZaM (a ++ b)) := by
  intro k0
  refine ZbX (l := fun n i => Zfp N [.list 1 (ZaM a) .sh, .list 1 (ZaM b) .sh] f.noOwn 2 k0 n (if i = 0 then [] else if i = 1 then ZaM a else ZaM (a ++ b)) (i : Int)) (len := 2) (k1 := k0 (ZaM (a ++ b))) ?_ ?_ (show 2 < N by omega)
  ·intro n i hi
   rcases (show i = 0 ∨ i = 1 by omega) with rfl | rfl
   ·show (if (0 + (ZaM a).length) * 16 ≤ 140737488355328 then Zfp N _ f.noOwn 2 k0 n ([] ++ (ZaM a).map V.noOwn) _ else none) = _
    rw [Zbl, if_pos (by omega), Zf1]
    rfl
   ·show (if ((ZaM a).length + (ZaM b).length) * 16 ≤ 140737488355328 then Zfp N _ f.noOwn 2 k0 n (ZaM a ++ (ZaM b).map V.noOwn) _ else none) = _
    rw [Zbl, Zbl, if_pos (by omega), Zf1, Zpu]
    rfl
  ·intro n
   rfl
 refine (hl1 _).trans ?_
 rw [Zvr]
 unfold ZrJ
 rw [if_pos ⟨by omega, by omega⟩]
 exact hl2 _
theorem ZsR {w : ByteArray} (hw : 1 ≤ w.size ∧ w.size ≤ 60) (k : Bool → Option R) : ZHv N w (ByteArray.mk #[47]) k = ZbP w (IntKind.i64.wrap ((w.size : Int) - 1)) fun n => k (n == 47) := by
 rw [ZxL]
 unfold Zrj
 rw [Zwx]
 unfold ZrK
 rw [show (((ByteArray.mk #[47]).size : Nat) : Int) = 1 from rfl, decide_eq_true (by omega), Zbf (by omega) (by omega), show (w.size : Int) - 1 = ((w.size - 1 : Nat) : Int) by omega]
 have hlt : w.size - 1 < (bl w).length := by rw [← Zbo]; omega
 rw [ZbH w hlt]
 simp only
 rw [if_pos ⟨by omega, by omega⟩, Int.toNat_natCast]
 congr 1
 rw [ByteArray.toList_eq, ByteArray.toList_eq]
 show (bl (ByteArray.extract w (w.size - 1) w.size) == [47]) = _
 rw [Zli, List.take_of_length_le (by rw [Zbo]; exact Nat.le_refl _), List.drop_eq_getElem_cons hlt, List.drop_eq_nil_of_le (by rw [← Zbo]; omega), ZbU hlt]
 rw [show (47 : Int) = ((47 : UInt8).toNat : Int) from rfl, ZuI]
 by_cases h : (bl w)[w.size - 1] = 47
 ·rw [h]; rfl
 ·rw [decide_eq_false h]
  apply beq_false_of_ne
  intro h2
  exact h (List.cons.inj h2).1
theorem ZqL {l : List Nod} (hf : Fine l) (hN : 1048580 < N) (b1 b2 : Bool) (f : Fl) (room cu cg : Int) (ke : Int → Option R) (ka : Int → Option R) :
  ∀ (n : Nat) (L : List ByteArray) (a h : Nat), a < l.length → h ≤ 8 → far L h ≤ 800 →
   ZeS N b1 b2 (nodsV l) f room cu cg (fun x54 _ => ke x54) ka n (ZaM L) (a : Int) (h : Int)
    = ZOo ke (fun a => ka (a : Nat)) (ZcJ (b1 || b2) l cu cg n L a h)
 | 0, L, a, h, _, _, _ => rfl
 | n + 1, [], a, h, _, _, _ => rfl
 | n + 1, p :: rest, a, h, ha, hh, hfar => by
  have hr : rest.length ≤ 1000 := by unfold far at hfar; rw [List.length_cons] at hfar; omega
  have hso := Zl9 hf ha hh (fol := b1 || b2) (cu := cu) (cg := cg) (p := p) (rest := rest)
  have ih := fun (L' : List ByteArray) (a' h' : Nat) (hs : Zjm (b1 || b2) l cu cg p rest a h = .inr (L', a', h')) => (by
   rw [hs] at hso
   exact ZqL hf hN b1 b2 f room cu cg ke ka n L' a' h' hso.1 hso.2.1 (by have := hso.2.2; omega) :
    ZeS N b1 b2 (nodsV l) f room cu cg (fun x54 _ => ke x54) ka n (ZaM L') (a' : Nat) (h' : Nat) = ZOo ke (fun a => ka (a : Nat)) (ZcJ (b1 || b2) l cu cg n L' a' h'))
  have hgoal : ZeS N b1 b2 (nodsV l) f room cu cg (fun x54 _ => ke x54) ka (n + 1) (ZaM (p :: rest)) (a : Int) (h : Int) = match Zjm (b1 || b2) l cu cg p rest a h with
    | .inl c => ke c
    | .inr (L', a', h') => ZeS N b1 b2 (nodsV l) f room cu cg (fun x54 _ => ke x54) ka n (ZaM L') (a' : Nat) (h' : Nat) := by
   simp only [ZeS, Zeh]
   have e0 : decide (((ZaM (p :: rest)).length : Int) > 0) = true := decide_eq_true (by rw [Zbl, List.length_cons]; omega)
   have e1 : (((ZaM (p :: rest)).take (ZaM (p :: rest)).length).drop 1) = ZaM rest := by rw [List.take_of_length_le (Nat.le_refl _), ZlJ]; rfl
   have e2 : (0 : Int) ≤ 1 ∧ (1 : Int) ≤ ((ZaM (p :: rest)).length : Int) := by rw [Zbl, List.length_cons]; omega
   rw [e0, e1, show nth (ZaM (p :: rest)) 0 = some (.str p) from rfl]
   simp only [Zag, Zcv, if_pos e2, Zu2 N ha, ZLa N ha]
   rw [show (p.toList == (ByteArray.mk #[46]).toList) = ZrO p from rfl, show (p.toList == (ByteArray.mk #[46, 46]).toList) = Zd6 p from rfl]
   unfold Zjm
   by_cases h1 : (at_ l a).kind = 2
   case neg => rw [if_pos h1, beq_false_of_ne h1]; rfl
   rw [if_neg (show ¬ (at_ l a).kind ≠ 2 from fun h => h h1), h1]
   cases h2 : ZrV cu cg (at_ l a).mode (at_ l a).uid (at_ l a).gid 1 with
   | false => rfl
   | true =>
   rw [if_neg (show ¬ (true = false) by decide)]
   simp only [beq_self_eq_true, Bool.not_true]
   cases ZrO p with
   | true => rfl
   | false =>
   rw [if_neg (show ¬ (false = true) by decide)]
   simp only
   cases Zd6 p with
   | true =>
    rw [if_pos (show true = true from rfl)]
    simp only
    rw [Zwi N hf.small hN]
   | false =>
   rw [if_neg (show ¬ (false = true) by decide)]
   simp only
   rw [ZEc N hf.small hN ha]
   by_cases h3 : Zbg (at_ l a).es p < 0
   ·rw [if_pos h3, decide_eq_true h3]
   rw [if_neg h3, decide_eq_false h3]
   obtain ⟨h4, h5⟩ := Zit hf.ent ha p h3
   simp only
   rw [if_pos (by omega), Za9 h4]
   simp only [Zag, Zbw]
   by_cases h6 : (at_ l (Zbg (at_ l a).es p).toNat).kind = 3
   case neg =>
    rw [if_pos h6, beq_false_of_ne h6]
    simp only
    rw [← h5]
   rw [if_neg (show ¬ (at_ l (Zbg (at_ l a).es p).toNat).kind ≠ 3 from fun h => h h6), h6]
   have hp := hf.link _ h4 h6
   have hs := Zcw hp
   have hpl := Zcr (at_ l (Zbg (at_ l a).es p).toNat).data
   simp only [beq_self_eq_true, Zbl, ZkE N (show (at_ l (Zbg (at_ l a).es p).toNat).data.size ≤ 1048576 by omega) hN, ZFv N hN (show (ZbJ (at_ l (Zbg (at_ l a).es p).toNat).data).length ≤ 1048577 by omega) (show rest.length ≤ 1048577 by omega), Zja hp]
   rw [ZaH (i := h) (by omega), show (((at_ (bl (at_ l (Zbg (at_ l a).es p).toNat).data) 0).toNat : Int) == 47) = ZgF (at_ l (Zbg (at_ l a).es p).toNat).data from rfl]
   by_cases h8 : h = 8
   ·subst h8
    by_cases h7 : rest.length = 0
    ·rw [decide_eq_false (by omega)]
     cases b1 with
     | true => rw [if_neg (show ¬ (rest.length = 0 ∧ (true || b2) = false) from fun hc => by simp at hc)]; rfl
     | false =>
      cases b2 with
      | true => rw [if_neg (show ¬ (rest.length = 0 ∧ (false || true) = false) from fun hc => by simp at hc)]; rfl
      | false =>
       rw [if_pos (show rest.length = 0 ∧ (false || false) = false from ⟨h7, rfl⟩)]
       simp only
       rw [← h5]
    ·rw [decide_eq_true (by omega), if_neg (show ¬ (rest.length = 0 ∧ (b1 || b2) = false) from fun hc => h7 hc.1)]; rfl
   ·rw [beq_false_of_ne (by omega : (h : Int) ≠ 8), if_neg h8]
    by_cases h7 : rest.length = 0
    ·rw [decide_eq_false (by omega)]
     cases b1 with
     | true =>
      rw [if_neg (show ¬ (rest.length = 0 ∧ (true || b2) = false) from fun hc => by simp at hc)]
      cases ZgF (at_ l (Zbg (at_ l a).es p).toNat).data <;> rfl
     | false =>
      cases b2 with
      | true =>
       rw [if_neg (show ¬ (rest.length = 0 ∧ (false || true) = false) from fun hc => by simp at hc)]
       cases ZgF (at_ l (Zbg (at_ l a).es p).toNat).data <;> rfl
      | false =>
       rw [if_pos (show rest.length = 0 ∧ (false || false) = false from ⟨h7, rfl⟩)]
       simp only
       rw [← h5]
    ·rw [decide_eq_true (by omega), if_neg (show ¬ (rest.length = 0 ∧ (b1 || b2) = false) from fun hc => h7 hc.1)]
     cases ZgF (at_ l (Zbg (at_ l a).es p).toNat).data <;> rfl
  rw [hgoal, ZcJ]
  cases hs : Zjm (b1 || b2) l cu cg p rest a h with
  | inl c => rfl
  | inr t =>
   obtain ⟨L', a', h'⟩ := t
   exact ih L' a' h' hs
end Go.VM.VL
set_option linter.unusedSimpArgs false
set_option linter.unusedVariables false
namespace Go.VM.VL
open Go
variable {R : Type} (N : Nat)
theorem Zk7 {w : ByteArray} (h : ZfY w = true) : far (ZbJ w) 0 ≤ 800 := by
 have h1 := Zcw h
 have h2 := Zcr w
 unfold far; omega
def Znr (l : List Nod) (cu cg : Int) (w : ByteArray) (fol : Bool) : Option (Int × Int) :=
 if ZcM w then
  match ZcJ (fol || (((at_ (bl w) (w.size - 1)).toNat : Int) == 47)) l cu cg N (ZbJ w) 0 0 with
  | none => none
  | some (.inl c) => some (0, c)
  | some (.inr a) => some (if ((((at_ (bl w) (w.size - 1)).toNat : Int) == 47) && !((at_ l a).kind == 2)) then (0, 3) else ((a : Nat), 0))
 else some (0, 1)
theorem Zfj {l : List Nod} (hf : Fine l) (hN : 1048580 < N) (cu cg : Int) (w : ByteArray) (fol : Bool) : ∃ r, Znr N l cu cg w fol = some r := by
 unfold Znr
 by_cases h : ZcM w = true
 ·rw [if_pos h]
  unfold ZcM at h
  rw [Bool.and_eq_true] at h
  obtain ⟨r, hr⟩ := Zyg hf (fol := fol || (((at_ (bl w) (w.size - 1)).toNat : Int) == 47)) (cu := cu) (cg := cg) N (ZbJ w) 0 0 hf.pos (by omega) (by have := Zk7 h.1; omega)
  rw [hr]
  cases r <;> exact ⟨_, rfl⟩
 ·rw [if_neg h]; exact ⟨_, rfl⟩
theorem Zxl {fol : Bool} {l : List Nod} (hf : Fine l) {cu cg : Int} : ∀ (n : Nat) (L : List ByteArray) (a h b : Nat), a < l.length → h ≤ 8 → ZcJ fol l cu cg n L a h = some (.inr b) → b < l.length
 | 0, _, _, _, _, _, _, h => by cases h
 | n + 1, [], a, h, b, ha, _, hr => by
  rw [ZcJ] at hr
  obtain rfl := Sum.inr.inj (Option.some.inj hr)
  exact ha
 | n + 1, p :: rest, a, h, b, ha, hh, hr => by
  have := Zl9 hf ha hh (fol := fol) (cu := cu) (cg := cg) (p := p) (rest := rest)
  rw [ZcJ] at hr
  cases hs : Zjm fol l cu cg p rest a h with
  | inl c => rw [hs] at hr; cases hr
  | inr t =>
   obtain ⟨L, a', h'⟩ := t
   rw [hs] at this hr
   exact Zxl hf n L a' h' b this.1 this.2.1 hr
theorem Zw9 {l : List Nod} (hf : Fine l) (hN : 1048580 < N) {w : ByteArray} (hw : w.size ≤ 1048576) (f : Fl) (room cu cg : Int) (fol : Bool) {r : Int × Int} (hr : Znr N l cu cg w fol = some r) (k : Int → Int → Option R) :
  ZDJ N (nodsV l) f room cu cg w fol k = k r.1 r.2 := by
 rw [ZxJ]
 unfold Zo6
 rw [ZpW N hw hN]
 unfold Znr at hr
 by_cases h : ZcM w = true
 ·rw [if_pos h] at hr
  rw [h]
  unfold ZcM at h
  rw [Bool.and_eq_true] at h
  have hs := Zcw h.1
  simp only [Bool.not_true]
  rw [Zbf (by omega) (by omega), show (w.size : Int) - 1 = ((w.size - 1 : Nat) : Int) by omega, ZbH w (by rw [← Zbo]; omega)]
  simp only [Zfm N hw hN]
  rw [show (0 : Int) = ((0 : Nat) : Int) from rfl]
  refine (Zqk N hf hN fol (((at_ (bl w) (w.size - 1)).toNat : Int) == 47) (nodsV l) f room cu cg _ room cu cg (fun x44 => k 0 x44) _ N (ZbJ w) 0 0 .sh rfl hf.pos (by omega) (Zk7 h.1)).trans ?_
  cases hq : ZcJ (fol || (((at_ (bl w) (w.size - 1)).toNat : Int) == 47)) l cu cg N (ZbJ w) 0 0 with
  | none => rw [hq] at hr; cases hr
  | some q =>
   rw [hq] at hr
   cases q with
   | inl c => obtain rfl := Option.some.inj hr; rfl
   | inr a =>
    obtain rfl := Option.some.inj hr
    have ha := Zxl hf N _ _ _ _ hf.pos (by omega) hq
    show (match (((at_ (bl w) (w.size - 1)).toNat : Int) == 47) with
     | true => (if 0 ≤ ((a : Nat) : Int) then Zbu (nth (nodsV l) ((a : Nat) : Int).toNat) fun e63 => Zax e63 fun n64 n65 n66 n67 n68 w69 e70 f71 => (match (n64 != 2) with
      | true => k 0 3
      | false => k ((a : Nat) : Int) 0) else none)
     | false => k ((a : Nat) : Int) 0) = _
    rw [if_pos (by omega), Int.toNat_natCast, Za9 ha]
    simp only [Zag, Zbw, bne]
    cases (((at_ (bl w) (w.size - 1)).toNat : Int) == 47) <;> cases ((at_ l a).kind == 2) <;> rfl
 ·rw [if_neg h] at hr
  obtain rfl := Option.some.inj hr
  rw [Bool.eq_false_iff.2 h]
  rfl
theorem ZBU {l : List Nod} (hf : Fine l) (hN : 1048580 < N) {w : ByteArray} (hw : w.size ≤ 1048576) (f : Fl) (room cu cg : Int) (fol : Bool) {r : Int × Int} (hr : Znr N l cu cg w fol = some r) (k : Int → Int → Option R) :
  Zrn N (nodsV l) f room cu cg w fol k = k r.1 r.2 := by
 rw [Zvv]
 unfold ZoP
 rw [Zre N hw hN]
 unfold Znr at hr
 by_cases h : ZcM w = true
 ·rw [if_pos h] at hr
  rw [h]
  unfold ZcM at h
  rw [Bool.and_eq_true] at h
  have hs := Zcw h.1
  simp only [Bool.not_true]
  rw [ZsR N hs, Zbf (by omega) (by omega), show (w.size : Int) - 1 = ((w.size - 1 : Nat) : Int) by omega, ZbH w (by rw [← Zbo]; omega)]
  simp only [ZkE N hw hN]
  rw [show (0 : Int) = ((0 : Nat) : Int) from rfl]
  refine (ZqL N hf hN fol (((at_ (bl w) (w.size - 1)).toNat : Int) == 47) f room cu cg (fun x54 => k 0 x54) _ N (ZbJ w) 0 0 hf.pos (by omega) (Zk7 h.1)).trans ?_
  cases hq : ZcJ (fol || (((at_ (bl w) (w.size - 1)).toNat : Int) == 47)) l cu cg N (ZbJ w) 0 0 with
  | none => rw [hq] at hr; cases hr
  | some q =>
   rw [hq] at hr
   cases q with
   | inl c => obtain rfl := Option.some.inj hr; rfl
   | inr a =>
    obtain rfl := Option.some.inj hr
    have ha := Zxl hf N _ _ _ _ hf.pos (by omega) hq
    simp only [ZOo, Zu2 N ha]
    cases (((at_ (bl w) (w.size - 1)).toNat : Int) == 47) <;> cases ((at_ l a).kind == 2) <;> rfl
 ·rw [if_neg h] at hr
  obtain rfl := Option.some.inj hr
  rw [Bool.eq_false_iff.2 h]
  rfl
def ZgZ (l : List Nod) (room cu cg : Int) : Bool := Zk3 l room && (inR cu 0 99 && inR cg 0 99)
theorem ZEJ {l : List Nod} (hl : Small l) (hN : 1048580 < N) (f : Fl) (room cu cg : Int) (k : Bool → Option R) : ZGC N (nodsV l) f room cu cg k = k (ZgZ l room cu cg) := by
 rw [Zya]
 unfold Zrt ZgZ
 rw [ZF8 N hl hN, ZJt N hl hN, Zvw]
 unfold Zpx
 simp only [ZBd]
 cases Zk3 l room <;> cases inR cu 0 99 <;> rfl
theorem ZB4 {l : List Nod} (hl : Small l) (hN : 1048580 < N) (f : Fl) (room cu cg : Int) (k : Bool → Option R) : ZIv N (nodsV l) f room cu cg k = k (ZgZ l room cu cg) := by
 rw [Zw1]
 unfold Zrm ZgZ
 rw [ZGx N hl hN, Zxy]
 unfold Zp0
 rw [Znw]
 unfold ZlE
 simp only [ZAY]
 cases Zk3 l room <;> cases inR cu 0 99 <;> rfl
theorem ZLm {l : List Nod} (hl : Small l) {room cu cg : Int} (h : ZgZ l room cu cg = true) : Fine l := by
 unfold ZgZ at h
 rw [Bool.and_eq_true] at h
 exact ZDp hl h.1
end Go.VM.VL
set_option linter.unusedSimpArgs false
set_option linter.unusedVariables false
namespace Go.VM.VL
open Go
variable {R : Type} (N : Nat)
theorem ZFk (c : UInt8) (a b : List UInt8) : Zbs c (a ++ c :: b) = Zbs c a ++ Zbs c b := by
 induction a with
 | nil => rw [List.nil_append, ZdR rfl]; rfl
 | cons x a ih =>
  rw [List.cons_append]
  by_cases h : x = c
  ·rw [ZdR h, ZdR h, ih, List.cons_append]
  ·rw [ZcE h, ZcE h, ih]
   cases hq : Zbs c a with
   | nil => exact absurd hq (ZdY c a)
   | cons p ps => simp [ZH2]
theorem Zo1 (c : UInt8) : ∀ (b : List UInt8), (∀ x ∈ b, x ≠ c) → Zbs c b = [b]
 | [], _ => rfl
 | x :: b, h => by
  rw [ZcE (h x (by simp)), Zo1 c b fun y hy => h y (by simp [hy])]
  rfl
def Zeo (l : List UInt8) : Nat → Nat
 | 0 => 0
 | n + 1 => if at_ l n = 47 then Zeo l n else n + 1
theorem ZxD (l : List UInt8) : ∀ n, Zeo l n ≤ n
 | 0 => Nat.le_refl 0
 | n + 1 => by
  unfold Zeo
  split
  ·exact Nat.le_succ_of_le (ZxD l n)
  ·exact Nat.le_refl _
def ZhP (l : List UInt8) : Nat → Int
 | 0 => -1
 | n + 1 => if at_ l n = 47 then (n : Int) else ZhP l n
theorem ZfE (l : List UInt8) : ∀ n, (ZhP l n = -1 ∧ ∀ j, j < n → at_ l j ≠ 47) ∨ ∃ m : Nat, ZhP l n = (m : Int) ∧ m < n ∧ at_ l m = 47 ∧ ∀ j, m < j → j < n → at_ l j ≠ 47
 | 0 => .inl ⟨rfl, fun j hj => by omega⟩
 | n + 1 => by
  unfold ZhP
  split
  ·rename_i h
   exact .inr ⟨n, rfl, by omega, h, fun j h1 h2 => by omega⟩
  ·rename_i h
   rcases ZfE l n with ⟨h1, h2⟩ | ⟨m, h1, h2, h3, h4⟩
   ·refine .inl ⟨h1, fun j hj => ?_⟩
    by_cases hjn : j = n
    ·subst hjn; exact h
    ·exact h2 j (by omega)
   ·refine .inr ⟨m, h1, by omega, h3, fun j hj1 hj2 => ?_⟩
    by_cases hjn : j = n
    ·subst hjn; exact h
    ·exact h4 j hj1 (by omega)
theorem ZK0 {b : UInt8} : ((b.toNat : Int) == 47) = decide (b = 47) := by
 have := ZuI (b := b) (c := 47)
 exact this
theorem ZtP {w : ByteArray} (hw : w.size ≤ 1048576) (hN : 1048580 < N) (k : Int → Option R) : ZIT N w 47 k = k (ZhP (bl w) (bl w).length) := by
 rw [Zwn]
 unfold ZrR
 rw [Zxq]
 unfold ZoI
 have key : ∀ (m n : Nat), m ≤ (bl w).length → m < n → Zgi N w 47 (fun x3 => k x3) (fun (_ : Unit) => k (-1)) n ((m : Int) - 1) = k (ZhP (bl w) m) := by
  intro m
  induction m with
  | zero =>
   intro n _ hn
   obtain ⟨n, rfl⟩ : ∃ q, n = q + 1 := ⟨n - 1, by omega⟩
   rw [Zgi, Zdx, decide_eq_false (by omega)]
   rfl
  | succ m ih =>
   intro n hm hn
   obtain ⟨n, rfl⟩ : ∃ q, n = q + 1 := ⟨n - 1, by omega⟩
   have e : (((m + 1 : Nat) : Int) - 1) = (m : Int) := by omega
   rw [Zgi, Zdx, e, decide_eq_true (by omega)]
   simp only
   rw [ZbH w (by omega), ZK0, ZhP]
   by_cases h : at_ (bl w) m = 47
   ·rw [decide_eq_true h, if_pos h]
   ·rw [decide_eq_false h, if_neg h]
    simp only
    have hs := Zbo w
    rw [Zbf (by omega) (by omega)]
    exact ih n (by omega) (by omega)
 have hs := Zbo w
 rw [Zbf (by omega) (by omega), hs]
 exact key (bl w).length N (Nat.le_refl _) (by omega)
theorem ZKb {l : List UInt8} {n i : Nat} (h : i < n) : at_ (l.take n) i = at_ l i := by
 unfold at_
 rw [List.getD_eq_getElem?_getD, List.getD_eq_getElem?_getD, List.getElem?_take, if_pos h]
theorem ZLK {w : ByteArray} (hw : w.size ≤ 1048576) (hN : 1048580 < N) {m : Nat} (hm : m ≤ (bl w).length) (k : ByteArray → Option R) : ZGj N (ba ((bl w).take m)) (ByteArray.mk #[47]) k = k (ba ((bl w).take (Zeo (bl w) m))) := by
 rw [Zwc]
 unfold ZoY
 have hs := Zbo w
 have key : ∀ (m n : Nat), m ≤ (bl w).length → m < n → Zgd N 47 (fun w3 => k w3) n (ba ((bl w).take m)) = k (ba ((bl w).take (Zeo (bl w) m))) := by
  intro m
  induction m with
  | zero =>
   intro n _ hn
   obtain ⟨n, rfl⟩ : ∃ q, n = q + 1 := ⟨n - 1, by omega⟩
   rw [Zgd, ZdA, decide_eq_false (by rw [Zbo, ZiL]; simp)]
   rfl
  | succ m ih =>
   intro n hm hn
   obtain ⟨n, rfl⟩ : ∃ q, n = q + 1 := ⟨n - 1, by omega⟩
   have hsz : (ba ((bl w).take (m + 1))).size = m + 1 := by rw [Zbo, ZiL, List.length_take]; omega
   have e : (((ba ((bl w).take (m + 1))).size : Int) - 1) = (m : Int) := by rw [hsz]; omega
   rw [Zgd, ZdA, decide_eq_true (by rw [hsz]; omega)]
   simp only
   rw [e, Zbf (by omega) (by omega), ZbH _ (by rw [ZiL, List.length_take]; omega), ZiL, ZKb (by omega), ZK0, Zeo]
   by_cases h : at_ (bl w) m = 47
   ·rw [decide_eq_true h, if_pos h]
    simp only
    rw [if_pos ⟨by omega, by rw [hsz]; omega⟩, Zck, ZiL, Int.toNat_natCast, List.take_take, Nat.min_eq_left (by omega), List.drop_zero]
    exact ih n (by omega) (by omega)
   ·rw [decide_eq_false h, if_neg h]
 have hone : ((((ByteArray.mk #[47]).size : Nat) : Int) == 1) = true := rfl
 have hb : ZbP (R := R) (ByteArray.mk #[47]) 0 = fun k => k 47 := rfl
 by_cases h0 : m = 0
 ·subst h0
  have : ((ba ((bl w).take 0)).toList == (ByteArray.mk #[]).toList) = true := by
   show Zbx _ = true
   rw [ZcG]
   rfl
  rw [this]
  rfl
 ·have : ((ba ((bl w).take m)).toList == (ByteArray.mk #[]).toList) = false := by
   show Zbx _ = false
   rw [ZcG, Zbo, ZiL, List.length_take]
   exact decide_eq_false (by omega)
  rw [this]
  simp only
  have h2 : ((ByteArray.mk #[47]).toList == (ByteArray.mk #[]).toList) = false := by
   show Zbx _ = false
   rw [ZcG]
   rfl
  rw [h2, hone]
  simp only [hb]
  rw [decide_eq_true (by omega)]
  simp only
  rw [ZxR]
  unfold ZqS
  exact key m N hm (by omega)
def ZeU (l : List UInt8) : Nat → Nat
 | 0 => 0
 | 1 => 1
 | n + 2 => if at_ l (n + 1) = 47 then ZeU l (n + 1) else n + 2
theorem ZlU {l : List UInt8} (h0 : at_ l 0 = 47) : ∀ n, 0 < n → ZeU l n = if Zeo l n = 0 then 1 else Zeo l n
 | 0, h => by omega
 | 1, _ => by simp [ZeU, Zeo, h0]
 | n + 2, _ => by
  unfold ZeU
  rw [Zeo]
  split
  ·exact ZlU h0 (n + 1) (by omega)
  ·simp
theorem ZCO (l : List UInt8) : ∀ n, ZeU l n ≤ n
 | 0 => Nat.le_refl 0
 | 1 => Nat.le_refl 1
 | n + 2 => by
  unfold ZeU
  split
  ·exact Nat.le_succ_of_le (ZCO l (n + 1))
  ·exact Nat.le_refl _
theorem ZKx {w : ByteArray} (hw : w.size ≤ 1048576) (hN : 1048580 < N) {m : Nat} (hm : ZhP (bl w) (bl w).length = (m : Int)) (k : ByteArray → Option R) : ZI0 N w k = k (ba ((bl w).take (ZeU (bl w) (m + 1)))) := by
 rw [Zxi]
 unfold Zq6
 have hs := Zbo w
 obtain ⟨m', h1, h2, h3, h4⟩ : ∃ m' : Nat, ZhP (bl w) (bl w).length = (m' : Int) ∧ m' < (bl w).length ∧ at_ (bl w) m' = 47 ∧ ∀ j, m' < j → j < (bl w).length → at_ (bl w) j ≠ 47 := by
  rcases ZfE (bl w) (bl w).length with ⟨h, _⟩ | h
  ·rw [hm] at h; omega
  ·exact h
 have hmm : m' = m := by rw [hm] at h1; omega
 subst hmm
 have second : ∀ (x n : Nat), x ≤ (bl w).length → x < n → 0 < x → Zgh N w
    (fun x6 => (if (0 : Int) ≤ x6 ∧ x6 ≤ (w.size : Int) then k (ByteArray.extract w 0 ((x6 : Int).toNat)) else none)) n (x : Int) = k (ba ((bl w).take (ZeU (bl w) x))) := by
  intro x
  induction x with
  | zero => intro n _ _ h; omega
  | succ x ih =>
   intro n hx hn _
   obtain ⟨n, rfl⟩ : ∃ q, n = q + 1 := ⟨n - 1, by omega⟩
   rw [Zgh, Zed]
   have fin : ∀ y : Nat, y ≤ (bl w).length → (if (0 : Int) ≤ (y : Int) ∧ (y : Int) ≤ (w.size : Int) then k (ByteArray.extract w 0 (((y : Nat) : Int).toNat)) else none) = k (ba ((bl w).take y)) := by
    intro y hy
    rw [if_pos ⟨by omega, by omega⟩, Zck, Int.toNat_natCast, List.drop_zero]
   by_cases hx1 : x = 0
   ·subst hx1
    rw [decide_eq_false (by omega)]
    exact fin 1 hx
   ·obtain ⟨y, rfl⟩ : ∃ y, x = y + 1 := ⟨x - 1, by omega⟩
    rw [decide_eq_true (by omega)]
    simp only
    have e : (((y + 1 + 1 : Nat) : Int) - 1) = ((y + 1 : Nat) : Int) := by omega
    rw [e, Zbf (by omega) (by omega), ZbH w (by omega), ZK0, ZeU]
    by_cases h : at_ (bl w) (y + 1) = 47
    ·rw [decide_eq_true h, if_pos h]
     exact ih n (by omega) (by omega) (by omega)
    ·rw [decide_eq_false h, if_neg h]
     exact fin _ hx
 have first : ∀ (d x n : Nat), m' + 1 + d = x → x ≤ (bl w).length → d < n → Zgo N w
   (fun x3 => Zgh N w (fun x6 => (if (0 : Int) ≤ x6 ∧ x6 ≤ (w.size : Int) then k (ByteArray.extract w 0 ((x6 : Int).toNat)) else none)) N x3) n (x : Int) = k (ba ((bl w).take (ZeU (bl w) (m' + 1)))) := by
  intro d
  induction d with
  | zero =>
   intro x n hx hl hn
   obtain ⟨n, rfl⟩ : ∃ q, n = q + 1 := ⟨n - 1, by omega⟩
   subst hx
   have e : (((m' + 1 + 0 : Nat) : Int) - 1) = (m' : Int) := by omega
   rw [Zgo, Zds, e, Zbf (by omega) (by omega), ZbH w (by omega), bne, ZK0, decide_eq_true h3]
   exact second (m' + 1) N (by omega) (by omega) (by omega)
  | succ d ih =>
   intro x n hx hl hn
   obtain ⟨n, rfl⟩ : ∃ q, n = q + 1 := ⟨n - 1, by omega⟩
   subst hx
   have e : (((m' + 1 + (d + 1) : Nat) : Int) - 1) = ((m' + 1 + d : Nat) : Int) := by omega
   rw [Zgo, Zds, e, Zbf (by omega) (by omega), ZbH w (by omega), bne, ZK0, decide_eq_false (h4 _ (by omega) (by omega))]
   exact ih _ n rfl (by omega) (by omega)
 rw [hs]
 exact first ((bl w).length - (m' + 1)) _ N (by omega) (Nat.le_refl _) (by omega)
end Go.VM.VL
set_option linter.unusedSimpArgs false
set_option linter.unusedVariables false
namespace Go.VM.VL
open Go
variable {R : Type} (N : Nat)
theorem Zkf {l : List Nod} (hf : Fine l) {cu cg : Int} {w : ByteArray} {fol : Bool} {r : Int × Int} (hr : Znr N l cu cg w fol = some r) : r.1 = ((r.1.toNat : Nat) : Int) ∧ r.1.toNat < l.length := by
 have hp := hf.pos
 unfold Znr at hr
 split at hr
 ·split at hr
  ·cases hr
  ·obtain rfl := Option.some.inj hr
   exact ⟨rfl, hp⟩
  ·rename_i a hq
   obtain rfl := Option.some.inj hr
   have ha := Zxl hf N _ _ _ _ hf.pos (by omega) hq
   split
   ·exact ⟨rfl, hp⟩
   ·exact ⟨rfl, ha⟩
 ·obtain rfl := Option.some.inj hr
  exact ⟨rfl, hp⟩
def ZcW (w : ByteArray) : ByteArray := ba ((bl w).drop ((ZhP (bl w) (bl w).length).toNat + 1))
def Zfh (w : ByteArray) : ByteArray := ba ((bl w).take (ZeU (bl w) ((ZhP (bl w) (bl w).length).toNat + 1)))
def Zpw (l : List Nod) (cu cg : Int) (w : ByteArray) (r : Int × Int) (k : Int → ByteArray → Int → Option R) : Option R :=
 if r.2 != 0 then k 0 (ByteArray.mk #[]) r.2 else if (at_ l r.1.toNat).kind == 2 then (if ZrV cu cg (at_ l r.1.toNat).mode (at_ l r.1.toNat).uid (at_ l r.1.toNat).gid 1 then k r.1 (ZcW w) 0 else k 0 (ByteArray.mk #[]) 4) else k 0 (ByteArray.mk #[]) 3
def Zi5 (l : List Nod) (cu cg : Int) (w : ByteArray) (k : Int → ByteArray → Int → Option R) : Option R :=
 if ZcM w && Zd5 (ZcW w) then match Znr N l cu cg (Zfh w) true with
  | some r => Zpw l cu cg w r k
  | none => none
 else k 0 (ByteArray.mk #[]) 1
theorem Zlx {w : ByteArray} (h : ZcM w = true) : at_ (bl w) 0 = 47 ∧ 1 ≤ w.size ∧ w.size ≤ 60 := by
 unfold ZcM at h
 rw [Bool.and_eq_true] at h
 have h1 := Zcw h.1
 have h2 := h.2
 rw [ZK0] at h2
 exact ⟨of_decide_eq_true h2, h1⟩
theorem Zkz {w : ByteArray} (h : at_ (bl w) 0 = 47) (h1 : 1 ≤ w.size) : ∃ m : Nat, ZhP (bl w) (bl w).length = (m : Int) ∧ m < (bl w).length ∧ at_ (bl w) m = 47 ∧ ∀ j, m < j → j < (bl w).length → at_ (bl w) j ≠ 47 := by
 have hs := Zbo w
 rcases ZfE (bl w) (bl w).length with ⟨_, h2⟩ | h2
 ·exact absurd h (h2 0 (by omega))
 ·exact h2
theorem Zlp {w : ByteArray} (h : at_ (bl w) 0 = 47) (h1 : 1 ≤ w.size) (hne : 0 < (ZcW w).size) : ∃ ps, ZbJ w = ps ++ [ZcW w] := by
 obtain ⟨m, h2, h3, h4, h5⟩ := Zkz h h1
 have e : bl w = (bl w).take m ++ 47 :: (bl w).drop (m + 1) := by
  have : (bl w).drop m = 47 :: (bl w).drop (m + 1) := by
   rw [List.drop_eq_getElem_cons h3]
   congr 1
   rw [← ZbU h3]; exact h4
  rw [← this, List.take_append_drop]
 have hsuf : Zbs 47 ((bl w).drop (m + 1)) = [(bl w).drop (m + 1)] := by
  apply Zo1
  intro x hx
  obtain ⟨j, hj⟩ := List.getElem?_of_mem hx
  rw [List.getElem?_drop] at hj
  have hjl := (List.getElem?_eq_some_iff.1 hj).1
  have := h5 (m + 1 + j) (by omega) hjl
  rw [ZbU hjl] at this
  rw [List.getElem?_eq_getElem hjl] at hj
  rw [← Option.some.inj hj]; exact this
 have hsp : Zby w = (Zbs 47 ((bl w).take m)).map ba ++ [ZcW w] := by
  unfold Zby ZcW
  rw [h2, Int.toNat_natCast]
  conv => lhs; rw [e]
  rw [ZFk, hsuf, List.map_append]
  rfl
 refine ⟨((Zbs 47 ((bl w).take m)).map ba).filter fun p => !Zbx p, ?_⟩
 unfold ZbJ
 rw [hsp, List.filter_append]
 congr 1
 have : Zbx (ZcW w) = false := by rw [ZcG]; exact decide_eq_false (by omega)
 simp [this]
theorem ZkI {w : ByteArray} (h : Zd5 w = true) : 0 < w.size := by
 unfold Zd5 Zep at h
 simp only [Bool.and_eq_true] at h
 have := Zb3.1 h.1.1.2
 omega
theorem Zqq {w : ByteArray} (h : Zd5 w = true) : ZrO w = false ∧ Zd6 w = false := by
 unfold Zd5 at h
 simp only [Bool.and_eq_true, Bool.not_eq_true'] at h
 exact ⟨h.1.2, h.2⟩
theorem ZAH {root : Bool} {ps : List ByteArray} {p : ByteArray} (h : Zd5 p = true) : ZpV root (ps ++ [p]) = ZpV root ps ++ [p] := by
 unfold ZpV
 rw [List.foldl_append]
 obtain ⟨h1, h2⟩ := Zqq h
 simp only [List.foldl_cons, List.foldl_nil, ZeB, h1, h2, Bool.false_eq_true, if_false]
theorem ZlM (root : Bool) : ∀ (ps xs : List ByteArray), (ps.foldl (ZeB root) xs).length ≤ xs.length + ps.length
 | [], xs => Nat.le_refl _
 | p :: ps, xs => by
  rw [List.foldl_cons]
  have h1 := ZlM root ps (ZeB root xs p)
  have h2 := ZlQ root xs p
  rw [List.length_cons]
  omega
theorem ZBo (cs : List ByteArray) (p : ByteArray) : at_ (cs ++ [p]) cs.length = p := by
 rw [ZbU (by simp)]
 simp
theorem ZIf {w : ByteArray} (hw : w.size ≤ 1048576) (hN : 1048580 < N) (hr : at_ (bl w) 0 = 47) (h1 : 1 ≤ w.size) (hn : Zd5 (ZcW w) = true) (k : ByteArray → Option R) : ZG1 N w k = k (ZcW w) := by
 rw [Zv4]
 unfold Zqt
 obtain ⟨ps, hps⟩ := Zlp hr h1 (ZkI hn)
 have hpl := Zcr w
 have hcl := ZlM ((((at_ (bl w) 0).toNat : Nat) : Int) == 47) ps []
 rw [hps] at hpl
 simp only [List.length_append, List.length_cons, List.length_nil] at hpl hcl
 rw [ZE3 N hw h1 hN, hps, ZAH hn, Zbl]
 unfold ZpV
 generalize ps.foldl (ZeB ((((at_ (bl w) 0).toNat : Nat) : Int) == 47)) [] = cs at *
 have hl : (cs ++ [ZcW w]).length = cs.length + 1 := by simp
 have e : IntKind.i64.wrap ((((cs ++ [ZcW w]).length : Nat) : Int) - 1) = (cs.length : Int) := by
  rw [Zbf (by omega) (by omega)]; omega
 have hz : ((((cs ++ [ZcW w]).length : Nat) : Int) == 0) = false := by
  rw [hl]; exact beq_eq_false_iff_ne.2 (by omega)
 rw [hz]
 simp only
 rw [e, Int.toNat_natCast, ZcA (by omega), ZBo]
 simp only [Zag, Zcv]
 have hd := (Zqq hn).2
 unfold Zd6 at hd
 rw [if_pos (by omega), hd]
 simp only
 rw [if_pos (by omega)]
theorem ZMM {w : ByteArray} (h1 : 1 ≤ w.size) (hw : w.size ≤ 1048576) (k : Int → Option R) : ZbP w (IntKind.i64.wrap ((w.size : Int) - 1)) k = k ((at_ (bl w) (w.size - 1)).toNat : Int) := by
 have hs := Zbo w
 have e : IntKind.i64.wrap ((w.size : Int) - 1) = ((w.size - 1 : Nat) : Int) := by rw [Zbf (by omega) (by omega)]; omega
 rw [e, ZbH w (by omega)]
theorem Ziu {w : ByteArray} {m : Nat} (hm : ZhP (bl w) (bl w).length = (m : Int)) : (ZcW w).size = w.size - (m + 1) := by
 unfold ZcW
 rw [hm, Int.toNat_natCast, Zbo, ZiL, List.length_drop, ← Zbo]
theorem ZGc {w : ByteArray} (hr : at_ (bl w) 0 = 47) {m : Nat} (hm : ZhP (bl w) (bl w).length = (m : Int)) (h47 : at_ (bl w) m = 47) : Zfh w = if Zbx (ba ((bl w).take (Zeo (bl w) m))) then ByteArray.mk #[47] else ba ((bl w).take (Zeo (bl w) m)) := by
 unfold Zfh
 rw [hm, Int.toNat_natCast, ZlU hr _ (by omega), Zeo, if_pos h47]
 have hle := ZxD (bl w) m
 have hm2 : m < (bl w).length := by
  rcases ZfE (bl w) (bl w).length with ⟨h, _⟩ | ⟨m', h, h2, _⟩
  ·rw [hm] at h; omega
  ·rw [hm] at h; omega
 have hml : 0 < (bl w).length := by omega
 by_cases h : Zeo (bl w) m = 0
 ·have he : Zbx (ba ((bl w).take (Zeo (bl w) m))) = true := by rw [ZcG, h]; rfl
  rw [if_pos h, he, if_pos rfl]
  have : (bl w).take 1 = [47] := by
   cases hb : bl w with
   | nil => rw [hb] at hml; simp at hml
   | cons a l => rw [hb] at hr; simp [at_] at hr; simp [hr]
  rw [this]
  rfl
 ·have he : Zbx (ba ((bl w).take (Zeo (bl w) m))) = false := by
   rw [ZcG, Zbo, ZiL, List.length_take]; exact decide_eq_false (by omega)
  rw [if_neg h, he]
  rfl
theorem ZkR {w : ByteArray} (hw : w.size ≤ 1048576) : (Zfh w).size ≤ 1048576 := by
 unfold Zfh
 rw [Zbo, ZiL, List.length_take, ← Zbo]; omega
theorem ZEX {l : List Nod} (hf : Fine l) (hN : 1048580 < N) {w : ByteArray} (hw : w.size ≤ 1048576) (f : Fl) (room cu cg : Int) (k : Int → ByteArray → Int → Option R) : ZIa N (nodsV l) f room cu cg w k = Zi5 N l cu cg w k := by
 rw [Zyl]
 unfold Zrv Zi5
 rw [ZpW N hw hN]
 cases hwh : ZcM w with
 | false => rfl
 | true =>
  obtain ⟨hr, h1, h60⟩ := Zlx hwh
  obtain ⟨m, hm, hml, h47, hafter⟩ := Zkz hr h1
  have hs := Zbo w
  simp only [Bool.not_true, Bool.true_and]
  rw [ZMM h1 hw, ZK0]
  by_cases he : at_ (bl w) (w.size - 1) = 47
  ·rw [decide_eq_true he]
   have hmm : m = w.size - 1 := by
    apply Nat.le_antisymm (by omega)
    apply Nat.le_of_not_lt
    intro hlt
    exact hafter _ hlt (by omega) he
   have hz := Ziu hm
   have hn : Zd5 (ZcW w) = false := by
    cases hq : Zd5 (ZcW w) with
    | false => rfl
    | true => have := ZkI hq; omega
   rw [hn]
   rfl
  ·rw [decide_eq_false he]
   simp only
   have hm2 : m < w.size - 1 := by
    apply Nat.lt_of_le_of_ne (by omega)
    intro e
    rw [e] at h47
    exact he h47
   have hz := Ziu hm
   obtain ⟨ps, hps⟩ := Zlp hr h1 (by omega)
   have hpl := Zcr w
   rw [Zfm N hw hN, Zbl, hps]
   rw [hps] at hpl
   have hl : (ps ++ [ZcW w]).length = ps.length + 1 := by simp
   have e : IntKind.i64.wrap ((((ps ++ [ZcW w]).length : Nat) : Int) - 1) = (ps.length : Int) := by
    rw [Zbf (by omega) (by omega)]; omega
   rw [e, if_pos (by omega), Int.toNat_natCast, ZcA (by omega), ZBo]
   simp only [Zag, Zcv]
   rw [ZKV N (by omega) (by omega)]
   cases hn : Zd5 (ZcW w) with
   | false => rfl
   | true =>
    simp only [Bool.not_true]
    rw [ZIf N hw hN hr h1 hn]
    have hem : ((ZcW w).toList == (ByteArray.mk #[]).toList) = false := by
     show Zbx _ = false
     rw [ZcG]; exact decide_eq_false (by have := ZkI hn; omega)
    rw [hem]
    simp only
    rw [ZKx N hw hN hm]
    have hap : ba ((bl w).take (ZeU (bl w) (m + 1))) = Zfh w := by unfold Zfh; rw [hm, Int.toNat_natCast]
    rw [hap]
    obtain ⟨r, hrr⟩ := Zfj N hf hN cu cg (Zfh w) true
    obtain ⟨g1, g2⟩ := Zkf N hf hrr
    rw [Zw9 N hf hN (ZkR hw) _ room cu cg true hrr, hrr]
    unfold Zpw
    simp only [if_true]
    rw [if_pos (by omega), Za9 g2]
    simp only [Zag, Zbw]
    rw [Zkk]
    unfold ZkT
    rw [if_pos (by omega), Za9 g2]
    simp only [Zag, Zbw, Ziz N (hf.mode _ g2) (show (0 : Int) ≤ 1 ∧ (1 : Int) ≤ 7 by omega)]
    cases (r.2 != 0) <;> cases hk : ((at_ l r.1.toNat).kind == 2) <;> cases ZrV cu cg (at_ l r.1.toNat).mode (at_ l r.1.toNat).uid (at_ l r.1.toNat).gid 1 <;> simp [bne, hk]
theorem ZK8 {l : List Nod} (hf : Fine l) (hN : 1048580 < N) {w : ByteArray} (hw : w.size ≤ 1048576) (f : Fl) (room cu cg : Int) (k : Int → ByteArray → Int → Option R) : ZFw N (nodsV l) f room cu cg w k = Zi5 N l cu cg w k := by
 rw [Zyj]
 unfold ZoO Zi5
 rw [ZtP N hw hN, Zre N hw hN]
 cases hwh : ZcM w with
 | false => rfl
 | true =>
  obtain ⟨hr, h1, h60⟩ := Zlx hwh
  obtain ⟨m, hm, hml, h47, hafter⟩ := Zkz hr h1
  have hs := Zbo w
  simp only [Bool.not_true, Bool.true_and]
  have e : IntKind.i64.wrap ((m : Int) + 1) = ((m + 1 : Nat) : Int) := ZaH (by omega)
  have hlp : ByteArray.extract w (m + 1) w.size = ZcW w := by
   unfold ZcW
   rw [Zck, hm, Int.toNat_natCast, hs, List.take_length]
  rw [hm, e, if_pos ⟨by omega, by omega⟩, Int.toNat_natCast, hlp, ZlB N (by have := Ziu hm; omega) (by omega)]
  cases hn : Zd5 (ZcW w) with
  | false => rfl
  | true =>
   simp only [Bool.not_true]
   rw [if_pos ⟨by omega, by omega⟩, Int.toNat_natCast]
   have hx : ByteArray.extract w 0 m = ba ((bl w).take m) := by rw [Zck, List.drop_zero]
   rw [hx, ZLK N hw hN (by omega)]
   have hae := ZGc hr hm h47
   obtain ⟨r, hrr⟩ := Zfj N hf hN cu cg (Zfh w) true
   obtain ⟨g1, g2⟩ := Zkf N hf hrr
   have both : ∀ (k2 : Int → Int → Option R), (match ((ba ((bl w).take (Zeo (bl w) m))).toList == (ByteArray.mk #[]).toList) with
     | true => Zrn N (nodsV l) f.noOwn.noOwn room cu cg (ByteArray.mk #[47]) true k2
     | false => Zrn N (nodsV l) f.noOwn.noOwn room cu cg (ba ((bl w).take (Zeo (bl w) m))) true k2) = k2 r.1 r.2 := by
    intro k2
    have hq : ((ba ((bl w).take (Zeo (bl w) m))).toList == (ByteArray.mk #[]).toList) = Zbx (ba ((bl w).take (Zeo (bl w) m))) := rfl
    rw [hq]
    have hsz := ZkR hw
    cases hb : Zbx (ba ((bl w).take (Zeo (bl w) m))) with
    | true =>
     rw [hb, if_pos rfl] at hae
     rw [hae] at hrr hsz
     exact ZBU N hf hN hsz _ room cu cg true hrr k2
    | false =>
     rw [hb] at hae
     simp only [Bool.false_eq_true, if_false] at hae
     rw [hae] at hrr hsz
     exact ZBU N hf hN hsz _ room cu cg true hrr k2
   refine (both _).trans ?_
   rw [hrr]
   unfold Zpw
   simp only [if_true]
   rw [ZnH]
   unfold ZlO
   rw [if_pos (by omega), Za9 g2]
   simp only [Zag, Zbw]
   rw [Zkd]
   unfold ZkZ
   rw [if_pos (by omega), Za9 g2]
   simp only [Zag, Zbw, ZiN]
   rw [if_pos ⟨by omega, by omega⟩]
   cases (r.2 != 0) <;> cases hk : ((at_ l r.1.toNat).kind == 2) <;> cases ZrV cu cg (at_ l r.1.toNat).mode (at_ l r.1.toNat).uid (at_ l r.1.toNat).gid 1 <;> simp [hk]
theorem ZLl {l : List Nod} (hf : Fine l) (hN : 1048580 < N) (cu cg : Int) (w : ByteArray) : ∃ a b c, ∀ {R' : Type} (k' : Int → ByteArray → Int → Option R'), Zi5 N l cu cg w k' = k' a b c := by
 unfold Zi5
 cases ZcM w && Zd5 (ZcW w) with
 | false => exact ⟨0, ByteArray.mk #[], 1, fun _ => rfl⟩
 | true =>
  obtain ⟨r, hrr⟩ := Zfj N hf hN cu cg (Zfh w) true
  rw [hrr]
  unfold Zpw
  cases h1 : (r.2 != 0) with
  | true => exact ⟨0, ByteArray.mk #[], r.2, fun _ => by simp [h1]⟩
  | false =>
   cases h2 : ((at_ l r.1.toNat).kind == 2) with
   | false => exact ⟨0, ByteArray.mk #[], 3, fun _ => by simp [h1, h2]⟩
   | true =>
    cases h3 : ZrV cu cg (at_ l r.1.toNat).mode (at_ l r.1.toNat).uid (at_ l r.1.toNat).gid 1 with
    | false => exact ⟨0, ByteArray.mk #[], 4, fun _ => by simp [h1, h2, h3]⟩
    | true => exact ⟨r.1, ZcW w, 0, fun _ => by simp [h1, h2, h3]⟩
end Go.VM.VL
set_option linter.unusedSimpArgs false
set_option linter.unusedVariables false
namespace Go.VM.VL
open Go
variable {R : Type} (N : Nat)
theorem Zrc (g : Nat → Nat) {i j n : Nat} (h : i < j) (hj : j < n) : g i + g j ≤ Zbr g n := by
 have h1 := Znp g h
 have h2 := ZeI g (a := j + 1) (b := n) hj
 have e : Zbr g (j + 1) = Zbr g j + g j := rfl
 omega
theorem ZA7 {l : List Nod} (h : Linked l) {a j : Nat} (ha : a < l.length) (hj : j < (at_ l a).es.length) (hd : Zco l (kid l a j) = true) : (Zcz l (kid l a j : Nat)).1 = a := by
 have he := (h.ent.kid ha hj).2
 generalize hn : kid l a j = n at *
 have hle := h.le hd
 have hq : ∀ i w, ZcR l (n : Nat) i = some w → w.1 = i ∧ (∃ m, m < (at_ l i).es.length ∧ (at_ (at_ l i).es m).2 = (n : Nat)) := by
  intro i w hw
  unfold ZcR at hw
  split at hw
  ·rename_i q hq
   obtain rfl := Option.some.inj hw
   refine ⟨rfl, ?_⟩
   unfold ZeL at hq
   obtain ⟨m, hm, hx⟩ := List.exists_of_findSome?_eq_some hq
   rw [List.mem_range'] at hm
   obtain ⟨m', hm', rfl⟩ := hm
   split at hx
   ·rename_i hb
    exact ⟨0 + 1 * m', by omega, beq_iff_eq.1 hb⟩
   ·cases hx
  ·cases hw
 unfold Zcz
 cases hf : (List.range' 0 l.length).findSome? (ZcR l (n : Nat)) with
 | none =>
  have := ZeA.1 hf a ha
  unfold ZcR at this
  cases hb : ZeL (at_ l a).es (n : Nat) with
  | some w => rw [hb] at this; cases this
  | none =>
   have := ZeA.1 hb j hj
   rw [beq_iff_eq.2 he, if_pos rfl] at this
   cases this
 | some p =>
  obtain ⟨i, hi, hx⟩ := List.exists_of_findSome?_eq_some hf
  rw [List.mem_range'] at hi
  obtain ⟨i', hi', rfl⟩ := hi
  obtain ⟨h1, h2⟩ := hq _ _ hx
  show p.1 = a
  rw [h1]
  rw [Nat.zero_add, Nat.one_mul] at *
  have c1 := (Ze2 (at_ l i').es (n : Nat)).2 h2
  have c2 := (Ze2 (at_ l a).es (n : Nat)).2 ⟨j, hj, he⟩
  rcases Nat.lt_trichotomy i' a with h3 | h3 | h3
  ·have := Zrc (fun i => ZdH (at_ l i).es (n : Nat) (at_ l i).es.length) h3 ha
   unfold Za6 at hle
   split at hle <;> omega
  ·exact h3
  ·have := Zrc (fun i => ZdH (at_ l i).es (n : Nat) (at_ l i).es.length) h3 hi'
   unfold Za6 at hle
   split at hle <;> omega
def upN (l : List Nod) : Nat → Nat → Prop
 | 0, n => n = 0
 | d + 1, n => n = 0 ∨ upN l d (Zcz l (n : Nat)).1
theorem Zxz {l : List Nod} (h : Linked l) : ∀ x, ∀ n ∈ bfs l x, upN l x n
 | 0, n, hn => by rw [bfs] at hn; exact List.mem_singleton.1 hn
 | x + 1, n, hn => by
  rw [bfs] at hn
  have mono : ∀ d m, upN l d m → upN l (d + 1) m := by
   intro d
   induction d with
   | zero => intro m hm; exact .inl hm
   | succ d ih =>
    rintro m (hm | hm)
    ·exact .inl hm
    ·exact .inr (ih _ hm)
  split at hn
  ·rename_i hx
   rcases List.mem_append.1 hn with h1 | h1
   ·exact mono _ _ (Zxz h x n h1)
   ·have hm : at_ (bfs l x) x ∈ bfs l x := Zft hx
    have ha := (Zfy h x).dist.lt _ hm
    obtain ⟨hd, j, hj, rfl⟩ := ZpY.1 h1
    refine .inr ?_
    rw [ZA7 h ha hj hd]
    exact Zxz h x _ hm
  ·exact mono _ _ (Zxz h x n hn)
structure Fine2 (l : List Nod) : Prop extends Fine l where
 tied : Linked l
 up : ∀ n, Zco l n = true → upN l l.length n
theorem ZFA {l : List Nod} (hl : Small l) {room : Int} (h : Zk3 l room = true) : Fine2 l := by
 have hf := ZDp hl h
 unfold Zk3 at h
 simp only [Bool.and_eq_true, Zbp] at h
 obtain ⟨⟨⟨⟨⟨⟨h1, h2⟩, h4⟩, h5⟩, h3⟩, hlk⟩, h7⟩ := h
 have hL := Zqz hf.pos h4 (Zbp.2 h5) (Zbp.2 hlk)
 refine ⟨hf, hL, fun n hn => Zxz hL _ n ?_⟩
 have := h7 n (Zka hn)
 rw [hn] at this
 exact List.contains_iff_mem.1 (by simpa using this)
theorem Zr0 {l : List Nod} (hl : Small l) {room cu cg : Int} (h : ZgZ l room cu cg = true) : Fine2 l := by
 unfold ZgZ at h
 rw [Bool.and_eq_true] at h
 exact ZFA hl h.1
def upF (l : List Nod) (t : Int) : Nat → Int → Option Int
 | 0, _ => none
 | n + 1, x => if x != t then if x != 0 then upF l t n ((Zcz l x).1 : Nat) else some x else some x
theorem Zwe {l : List Nod} (t : Int) : ∀ (d n x : Nat), upN l d x → d < n → ∃ y, upF l t n (x : Int) = some y
 | d, 0, _, _, h => by omega
 | d, n + 1, x, hu, h => by
  rw [upF]
  cases h1 : ((x : Int) != t) with
  | false => exact ⟨_, if_neg (by simp)⟩
  | true =>
   rw [if_pos rfl]
   cases h2 : ((x : Int) != 0) with
   | false => exact ⟨_, if_neg (by simp)⟩
   | true =>
    rw [if_pos rfl]
    cases d with
    | zero => have h0 : x = 0 := hu; subst h0; simp at h2
    | succ d =>
     rcases hu with h0 | hu
     ·subst h0; simp at h2
     ·exact Zwe t d n _ hu (by omega)
end Go.VM.VL
set_option linter.unusedSimpArgs false
set_option linter.unusedVariables false
namespace Go.VM.VL
open Go
variable {R : Type} (N : Nat)
theorem Zzp {l : List Nod} (hf : Fine l) (hN : 1048580 < N) (cu cg : Int) (w : ByteArray) : ∃ (a : Int) (b : ByteArray) (c : Int), (∀ {R' : Type} (k' : Int → ByteArray → Int → Option R'), Zi5 N l cu cg w k' = k' a b c) ∧ (c = 0 → ∃ m : Nat, a = (m : Int) ∧ Zco l m = true) := by
 unfold Zi5
 cases ZcM w && Zd5 (ZcW w) with
 | false => exact ⟨0, ByteArray.mk #[], 1, fun _ => rfl, fun h => absurd h (by decide)⟩
 | true =>
  obtain ⟨r, hrr⟩ := Zfj N hf hN cu cg (Zfh w) true
  obtain ⟨g1, g2⟩ := Zkf N hf hrr
  rw [hrr]
  unfold Zpw
  cases h1 : (r.2 != 0) with
  | true => exact ⟨0, ByteArray.mk #[], r.2, fun _ => by simp [h1], fun h => by rw [h] at h1; exact absurd h1 (by decide)⟩
  | false =>
   cases h2 : ((at_ l r.1.toNat).kind == 2) with
   | false => exact ⟨0, ByteArray.mk #[], 3, fun _ => by simp [h1, h2], fun h => absurd h (by decide)⟩
   | true =>
    cases h3 : ZrV cu cg (at_ l r.1.toNat).mode (at_ l r.1.toNat).uid (at_ l r.1.toNat).gid 1 with
    | false => exact ⟨0, ByteArray.mk #[], 4, fun _ => by simp [h1, h2, h3], fun h => absurd h (by decide)⟩
    | true => exact ⟨r.1, ZcW w, 0, fun _ => by simp [h1, h2, h3], fun _ => ⟨r.1.toNat, g1, h2⟩⟩
def Zii (w : ByteArray) : ByteArray := if Zbx w then ByteArray.mk #[46] else w
theorem Zzy (w : ByteArray) (k : ByteArray → Option R) : Zlg N w k = k (Zii w) := by
 rw [Zxa]
 unfold Zqn Zii
 rw [show (w.toList == (ByteArray.mk #[]).toList) = Zbx w from rfl]
 cases Zbx w <;> rfl
theorem Ztl (w : ByteArray) (c : Int) (k : ByteArray → Int → Option R) : ZC8 N w c k = k (Zii w) c := by
 rw [ZwK]
 unfold ZoR Zii
 rw [show (w.toList == (ByteArray.mk #[]).toList) = Zbx w from rfl]
 cases Zbx w <;> rfl
theorem ZkF {l : List Nod} (hl : Small l) (hN : 1048580 < N) (t : Int) (f : Fl) (room : Int) (k0 : Int → Option R) : ∀ (n : Nat) (x : Int) (y : Int), upF l t n x = some y → ZiZ N t (nodsV l) f room k0 n x = k0 y
 | 0, x, y, h => by cases h
 | n + 1, x, y, h => by
  rw [upF] at h
  simp only [ZiZ, Zd8]
  cases h1 : (x != t) with
  | false => rw [h1] at h; simp only [Bool.false_eq_true, if_false] at h; obtain rfl := Option.some.inj h; rfl
  | true =>
   rw [h1, if_pos rfl] at h
   cases h2 : (x != 0) with
   | false => rw [h2] at h; simp only [Bool.false_eq_true, if_false] at h; obtain rfl := Option.some.inj h; rfl
   | true =>
    rw [h2, if_pos rfl] at h
    simp only [ZlG N hl hN]
    exact ZkF hl hN t f room k0 n _ y h
theorem Zln {l : List Nod} (hl : Small l) (hN : 1048580 < N) (t : Int) (f : Fl) (room : Int) (k0 : Int → Option R) : ∀ (n : Nat) (x : Int) (y : Int), upF l t n x = some y → ZiO N t (nodsV l) f room k0 n x = k0 y
 | 0, x, y, h => by cases h
 | n + 1, x, y, h => by
  rw [upF] at h
  simp only [ZiO, Zea]
  cases h1 : (x != t) with
  | false => rw [h1] at h; simp only [Bool.false_eq_true, if_false] at h; obtain rfl := Option.some.inj h; rfl
  | true =>
   rw [h1, if_pos rfl] at h
   cases h2 : (x != 0) with
   | false => rw [h2] at h; simp only [Bool.false_eq_true, if_false] at h; obtain rfl := Option.some.inj h; rfl
   | true =>
    rw [h2, if_pos rfl] at h
    simp only [Zwi N hl hN]
    exact Zln hl hN t f room k0 n _ y h
theorem ZAa {l : List Nod} (hl : Small l) (hN : 1048580 < N) (f : Fl) (room t x : Int) {y : Int} (h : upF l t N x = some y) (k : Bool → Option R) : ZHo N (nodsV l) f room t x k = k (y == t) := by
 rw [Zwd]
 unfold Zqh
 rw [ZkF N hl hN t f room _ N x y h]
theorem ZEY {l : List Nod} (hl : Small l) (hN : 1048580 < N) (f : Fl) (room t x : Int) {y : Int} (h : upF l t N x = some y) (k : Bool → List V → Fl → Int → Option R) : ZHG N x t (nodsV l) f room k = k (y == t) (nodsV l) f room := by
 rw [ZvX]
 unfold ZpL
 rw [Zln N hl hN t f room _ N x y h]
theorem ZE2 {l : List Nod} (hf : Fine2 l) (hN : 1048580 < N) (cu cg : Int) {w v : ByteArray} (hw : w.size ≤ 1048576) (hv : v.size ≤ 1048576) (room : Int) : ∃ (c : Int) (p : ByteArray), (∀ {R : Type} (f : Fl) (k : Int → ByteArray → Option R), ZIr N (nodsV l) f room cu cg w v (fun c p _ _ _ => k c p) = k c p)
  ∧ (∀ {R : Type} (f : Fl) (k : Int → ByteArray → Option R), ZHj N cu cg w v (nodsV l) f room (fun x2 w3 _ _ _ => (match (x2 != 0) with
  | true => ZC8 N w3 x2 fun w7 x8 => k x2 w7
  | false => k x2 w3)) = k c p) := by
 obtain ⟨r, hrr⟩ := Zfj N hf.toFine hN cu cg w false
 obtain ⟨g1, g2⟩ := Zkf N hf.toFine hrr
 obtain ⟨a, b, c, hk, hc⟩ := Zzp N hf.toFine hN cu cg v
 simp only [Zxu, ZvW]
 unfold ZoD ZpK
 simp only [Zw9 N hf.toFine hN hw _ room cu cg false hrr, ZBU N hf.toFine hN hw _ room cu cg false hrr, ZEX N hf.toFine hN hv, ZK8 N hf.toFine hN hv, hk, Zzy, Ztl]
 cases h1 : (r.2 != 0) with
 | true => exact ⟨r.2, Zii w, fun _ _ => rfl, fun _ _ => by simp only [h1]⟩
 | false =>
  cases h2 : (c != 0) with
  | true => exact ⟨c, Zii v, fun _ _ => rfl, fun _ _ => by simp only [h2]⟩
  | false =>
   obtain ⟨m, rfl, hm⟩ := hc (by simpa using h2)
   have hml := Zka hm
   have hes := hf.small.es m hml
   simp only [Int.natCast_nonneg, if_true, Int.toNat_natCast, Za9 hml, Zag, Zbw, ZJc N hes hN, ZEc N hf.small hN hml]
   cases h3 : decide (Zbg (at_ l m).es b ≥ 0) with
   | true => exact ⟨6, Zii v, fun _ _ => rfl, fun _ _ => rfl⟩
   | false =>
    simp only [ZvV, Zyv]
    unfold Zrd ZoK
    simp only [Zkk, Zkd]
    unfold ZkT ZkZ
    simp only [Int.natCast_nonneg, if_true, Int.toNat_natCast, Za9 hml, Zag, Zbw, Ziz N (hf.mode _ hml) (show (0 : Int) ≤ 3 ∧ (3 : Int) ≤ 7 by omega), ZiN]
    cases h4 : ZrV cu cg (at_ l m).mode (at_ l m).uid (at_ l m).gid 3 with
    | false => exact ⟨4, Zii v, fun _ _ => rfl, fun _ _ => rfl⟩
    | true =>
     rw [g1]
     simp only [Bool.not_true, Int.natCast_nonneg, if_true, Int.toNat_natCast, Za9 g2, Zag, Zbw, Zu2 N g2]
     cases h5 : ((at_ l r.1.toNat).kind == 2) with
     | false => exact ⟨0, ByteArray.mk #[], fun _ _ => rfl, fun _ _ => rfl⟩
     | true =>
      obtain ⟨y, hy⟩ := Zwe (l := l) (r.1.toNat : Nat) l.length N m (hf.up m hm) (by have := hf.len; omega)
      simp only [ZAa N hf.small hN _ _ _ _ hy, ZEY N hf.small hN _ _ _ _ hy]
      cases (y == ((r.1.toNat : Nat) : Int)) with
      | true => exact ⟨1, Zii v, fun _ _ => rfl, fun _ _ => rfl⟩
      | false => exact ⟨0, ByteArray.mk #[], fun _ _ => rfl, fun _ _ => rfl⟩
theorem law_FnExactCopyCode {l : List Nod} (hl : FsOk l) (f : Fl) (room cu cg : Int) (w v : ByteArray) (hw : w.size ≤ 9223372036854775807) (hv : v.size ≤ 9223372036854775807) (k : Bool → Option R) :
  ZlN 1048600 (nodsV l) f room cu cg w v k = k true := by
 unfold ZlN
 by_cases h : (w.size : Int) > 1048576
 ·rw [decide_eq_true h]
 rw [decide_eq_false h]
 by_cases h' : (v.size : Int) > 1048576
 ·rw [decide_eq_true h']
 rw [decide_eq_false h']
 simp only
 rw [ZNm 1048600 hl (by omega) _ _ _ (by omega) (by omega)]
 by_cases h2 : (ZJn l : Int) ≤ 1048576
 ·have hs := Small.of (l := l) (by omega)
  have hN : 1048580 < 1048600 := by omega
  have hN1 : 1048576 < 1048600 := by omega
  have hw2 : w.size ≤ 1048576 := by omega
  have hv2 : v.size ≤ 1048576 := by omega
  rw [ZiT h2, decide_eq_false (by omega)]
  simp only [ZB1 1048600 hs hN1, ZF1]
  rw [Zwp, ZwU]
  unfold ZoZ Zra
  simp only [ZEJ 1048600 hs hN, ZB4 1048600 hs hN]
  cases ha : ZgZ l room cu cg with
  | false => simp only [ZB1 1048600 hs hN1, ZJe 1048600 hs hN1, bne_self_eq_false, beq_self_eq_true, Bool.not_true, Bool.not_false]
  | true =>
   have hf := Zr0 hs ha
   obtain ⟨c, p, e1, e2⟩ := ZE2 1048600 hf hN cu cg hw2 hv2 room
   simp only [Bool.not_true, e1]
   refine (e2 _ _).trans ?_
   simp only [ZB1 1048600 hs hN1, ZJe 1048600 hs hN1, bne_self_eq_false, beq_self_eq_true, Bool.not_true]
 ·rw [ZeO h2]
  rfl
end Go.VM.VL
set_option linter.unusedSimpArgs false
set_option linter.unusedVariables false
namespace Go.VM.VL
open Go
def ZdG (fs : Array Field) (ts : List (TypeId × Nat)) : Prop := fs.toList.map (fun f => (f.type, f.offset)) = ts
theorem ZgT {P : Program} {n : Nat} {fs : Array Field} {ts : List (TypeId × Nat)} {ds : List V} (hfs : ZdG fs ts) (h2 : ∀ f ∈ fs.toList, Zfq P n f.type ((ds.drop f.offset).take (P.cellsOf f.type))) :
  ∀ p ∈ ts, Zfq P n p.1 ((ds.drop p.2).take (P.cellsOf p.1)) := by
 intro p hp
 rw [← hfs] at hp
 obtain ⟨f, hf, rfl⟩ := List.mem_map.1 hp
 exact h2 f hf
theorem ZcL {P : Program} {n : Nat} {ds : List V} {t : TypeId} {o : Nat} (u : P.underlying t = some (.int .i64)) (c : P.cellsOf t = 1) (ho : o < ds.length) (h : Zfq P (n + 1) t ((ds.drop o).take (P.cellsOf t))) : ∃ z, nth ds o = some (.int .i64 z) := by
 obtain ⟨z, hz, _⟩ := ZIC u h
 rw [c, List.drop_eq_getElem_cons ho] at hz
 have hz' : [ds[o]] = [V.int .i64 z] := hz
 exact ⟨z, by rw [Zfb ho, (List.cons.inj hz').1]⟩
theorem ZoU {P : Program} {n : Nat} {ds : List V} {t : TypeId} {o : Nat} (u : P.underlying t = some .string) (c : P.cellsOf t = 1) (ho : o < ds.length) (h : Zfq P (n + 1) t ((ds.drop o).take (P.cellsOf t))) : ∃ s, nth ds o = some (.str s) ∧ s.size ≤ maxLen := by
 obtain ⟨s, hz, hs⟩ := ZgL u h
 rw [c, List.drop_eq_getElem_cons ho] at hz
 have hz' : [ds[o]] = [V.str s] := hz
 exact ⟨s, by rw [Zfb ho, (List.cons.inj hz').1], hs⟩
theorem ZrN {P : Program} {n : Nat} {ds : List V} {t : TypeId} {o : Nat} (c : P.cellsOf t = 1) (ho : o < ds.length) (h : Zfq P n t ((ds.drop o).take (P.cellsOf t))) : Zfq P n t [ds[o]] := by
 rw [c, List.drop_eq_getElem_cons ho] at h
 exact h
theorem ZNf {P : Program} {n tS tI : Nat} {fs : Array Field} {ds : List V} (hl : ds.length = 2) (hfs : ZdG fs [(tS, 0), (tI, 1)]) (uS : P.underlying tS = some .string) (uI : P.underlying tI = some (.int .i64)) (cS : P.cellsOf tS = 1) (cI : P.cellsOf tI = 1)
  (h2 : ∀ f ∈ fs.toList, Zfq P (n + 1) f.type ((ds.drop f.offset).take (P.cellsOf f.type))) : ∃ e : Ent, V.agg ds = ZFu e ∧ e.1.size ≤ maxLen := by
 have h3 := ZgT hfs h2
 obtain ⟨s, hs, hz⟩ := ZoU (o := 0) uS cS (by omega) (h3 (tS, 0) (by simp))
 obtain ⟨z, hi⟩ := ZcL (o := 1) uI cI (by omega) (h3 (tI, 1) (by simp))
 match ds, hl with
 | [x, y], _ =>
  obtain rfl := Option.some.inj hs
  obtain rfl := Option.some.inj hi
  exact ⟨(s, z), rfl, hz⟩
theorem ZNS {P : Program} {n tS tI tE tL : Nat} {fs fe : Array Field} {ds : List V} (hl : ds.length = 7) (hfs : ZdG fs [(tI, 0), (tI, 1), (tI, 2), (tI, 3), (tI, 4), (tS, 5), (tL, 6)]) (hfe : ZdG fe [(tS, 0), (tI, 1)])
  (uS : P.underlying tS = some .string) (uI : P.underlying tI = some (.int .i64)) (uL : P.underlying tL = some (.slice tE)) (uE : P.underlying tE = some (.struct fe)) (cS : P.cellsOf tS = 1) (cI : P.cellsOf tI = 1) (cL : P.cellsOf tL = 1) (cE : P.cellsOf tE = 2)
  (h2 : ∀ f ∈ fs.toList, Zfq P (n + 3) f.type ((ds.drop f.offset).take (P.cellsOf f.type))) : ∃ a : Nod, V.agg ds = ZFt a ∧ (a.data.size ≤ maxLen ∧ a.es.length ≤ maxLen ∧ ∀ e ∈ a.es, e.1.size ≤ maxLen) := by
 have h3 := ZgT hfs h2
 obtain ⟨z0, i0⟩ := ZcL (o := 0) uI cI (by omega) (h3 (tI, 0) (by simp))
 obtain ⟨z1, i1⟩ := ZcL (o := 1) uI cI (by omega) (h3 (tI, 1) (by simp))
 obtain ⟨z2, i2⟩ := ZcL (o := 2) uI cI (by omega) (h3 (tI, 2) (by simp))
 obtain ⟨z3, i3⟩ := ZcL (o := 3) uI cI (by omega) (h3 (tI, 3) (by simp))
 obtain ⟨z4, i4⟩ := ZcL (o := 4) uI cI (by omega) (h3 (tI, 4) (by simp))
 obtain ⟨s, hs, hz⟩ := ZoU (o := 5) uS cS (by omega) (h3 (tS, 5) (by simp))
 have hL := ZrN cL (show 6 < ds.length by omega) (h3 (tL, 6) (by simp))
 obtain ⟨l, he, hel, hq⟩ := Zi4 (f := ZFu) (q := fun e : Ent => e.1.size ≤ maxLen) uL uE (fun ds h1 h2 => ZNf (n := n) (h1.trans cE) hfe uS uI cS cI h2) hL
 obtain ⟨x0, x1, x2, x3, x4, x5, x6, rfl⟩ : ∃ x0 x1 x2 x3 x4 x5 x6, ds = [x0, x1, x2, x3, x4, x5, x6] := by
  clear hL he h3 h2 i0 i1 i2 i3 i4 hs
  match ds, hl with
  | [x0, x1, x2, x3, x4, x5, x6], _ => exact ⟨x0, x1, x2, x3, x4, x5, x6, rfl⟩
 obtain rfl := Option.some.inj i0
 obtain rfl := Option.some.inj i1
 obtain rfl := Option.some.inj i2
 obtain rfl := Option.some.inj i3
 obtain rfl := Option.some.inj i4
 obtain rfl := Option.some.inj hs
 have he' : x6 = .list (P.cellsOf tE) (l.map ZFu) .sh := he
 rw [cE] at he'
 subst he'
 exact ⟨⟨z0, z1, z2, z3, z4, s, l⟩, rfl, hz, hel, hq⟩
theorem fs_of {P : Program} {n tS tI tE tL tN tM : Nat} {ff fs fe : Array Field} {ds : List V} (hl : ds.length = 2) (hff : ZdG ff [(tM, 0), (tI, 1)]) (hfs : ZdG fs [(tI, 0), (tI, 1), (tI, 2), (tI, 3), (tI, 4), (tS, 5), (tL, 6)]) (hfe : ZdG fe [(tS, 0), (tI, 1)])
  (uM : P.underlying tM = some (.slice tN)) (uN : P.underlying tN = some (.struct fs)) (uS : P.underlying tS = some .string) (uI : P.underlying tI = some (.int .i64)) (uL : P.underlying tL = some (.slice tE)) (uE : P.underlying tE = some (.struct fe))
  (cM : P.cellsOf tM = 1) (cN : P.cellsOf tN = 7) (cS : P.cellsOf tS = 1) (cI : P.cellsOf tI = 1) (cL : P.cellsOf tL = 1) (cE : P.cellsOf tE = 2)
  (h2 : ∀ f ∈ ff.toList, Zfq P (n + 5) f.type ((ds.drop f.offset).take (P.cellsOf f.type))) : ∃ (l : List Nod) (room : Int), ds = [.list 7 (nodsV l) .sh, .int .i64 room] ∧ FsOk l := by
 have h3 := ZgT hff h2
 obtain ⟨z, hi⟩ := ZcL (o := 1) uI cI (by omega) (h3 (tI, 1) (by simp))
 have hL := ZrN cM (show 0 < ds.length by omega) (h3 (tM, 0) (by simp))
 obtain ⟨l, he, hel, hq⟩ := Zi4 (f := ZFt) (q := fun a : Nod => a.data.size ≤ maxLen ∧ a.es.length ≤ maxLen ∧ ∀ e ∈ a.es, e.1.size ≤ maxLen) uM uN (fun ds h1 h2 => ZNS (n := n) (h1.trans cN) hfs hfe uS uI uL uE cS cI cL cE h2) hL
 obtain ⟨x, y, rfl⟩ : ∃ x y, ds = [x, y] := by
  clear hL he h3 h2 hi
  match ds, hl with
  | [x, y], _ => exact ⟨x, y, rfl⟩
 ·obtain rfl := Option.some.inj hi
  have he' : x = .list (P.cellsOf tN) (l.map ZFt) .sh := he
  rw [cN] at he'
  subst he'
  exact ⟨l, z, rfl, hel, fun i hi => by
   have := hq _ (Zft hi)
   exact ⟨this.1, this.2.1, fun j hj => this.2.2 _ (Zft hj)⟩⟩
theorem cred_of {P : Program} {n tI : Nat} {ff : Array Field} {ds : List V} (hl : ds.length = 2) (hff : ZdG ff [(tI, 0), (tI, 1)]) (uI : P.underlying tI = some (.int .i64)) (cI : P.cellsOf tI = 1)
  (h2 : ∀ f ∈ ff.toList, Zfq P (n + 1) f.type ((ds.drop f.offset).take (P.cellsOf f.type))) : ∃ a b : Int, ds = [.int .i64 a, .int .i64 b] := by
 have h3 := ZgT hff h2
 obtain ⟨z0, i0⟩ := ZcL (o := 0) uI cI (by omega) (h3 (tI, 0) (by simp))
 obtain ⟨z1, i1⟩ := ZcL (o := 1) uI cI (by omega) (h3 (tI, 1) (by simp))
 match ds, hl with
 | [x, y], _ =>
  obtain rfl := Option.some.inj i0
  obtain rfl := Option.some.inj i1
  exact ⟨z0, z1, rfl⟩
end Go.VM.VL
