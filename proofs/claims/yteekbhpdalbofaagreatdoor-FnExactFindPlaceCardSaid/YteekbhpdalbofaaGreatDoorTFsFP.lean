/- The plain laws of the printed functions, from the bottom up to the law itself. -/
import Derived.Test.YteekbhpdalbofaaGreatDoorXF
import Derived.Test.YteekbhpdalbofaaGreatDoorTLib
import Derived.Test.YteekbhpdalbofaaGreatDoorVmZe
import Derived.Lib.Bytealg
import Derived.Lib.IndexLaws
set_option linter.unusedSimpArgs false
set_option linter.unusedVariables false
namespace Go.VM.VL
section loops
variable {R β : Type} {l : Nat → Nat → Option R} {len : Nat} {k0 k1 : Option R}
theorem loop_run' (hs : ∀ n i, i < len → l (n + 1) i = l n (i + 1)) (he : ∀ n, l (n + 1) len = k1) : ∀ (d n i : Nat), i + d = len → d < n → l n i = k1 := by
 intro d
 induction d with
 | zero =>
  intro n i hi hn
  obtain ⟨n, rfl⟩ : ∃ m, n = m + 1 := ⟨n - 1, by omega⟩
  obtain rfl : i = len := by omega
  exact he n
 | succ d ih =>
  intro n i hi hn
  obtain ⟨n, rfl⟩ : ∃ m, n = m + 1 := ⟨n - 1, by omega⟩
  rw [hs n i (by omega)]
  exact ih n (i + 1) (by omega) (by omega)
theorem loop_run (hs : ∀ n i, i < len → l (n + 1) i = l n (i + 1)) (he : ∀ n, l (n + 1) len = k1) {N : Nat} (hN : len < N) : l N 0 = k1 :=
 loop_run' hs he len N 0 (by omega) hN
theorem loop_first' {q : Nat → Option β} {kb : β → Option R} (hs : ∀ n i, i < len → (∀ j, j < i → q j = none) → l (n + 1) i = match q i with | some b => kb b | none => l n (i + 1)) (he : (∀ j, j < len → q j = none) → ∀ n, l (n + 1) len = k1) :
  ∀ (d n i : Nat), i + d = len → d < n → (∀ j, j < i → q j = none) → l n i = match (List.range' i d).findSome? q with | some b => kb b | none => k1 := by
 intro d
 induction d with
 | zero =>
  intro n i hi hn hq
  obtain ⟨n, rfl⟩ : ∃ m, n = m + 1 := ⟨n - 1, by omega⟩
  obtain rfl : i = len := by omega
  rw [he hq n]; rfl
 | succ d ih =>
  intro n i hi hn hq
  obtain ⟨n, rfl⟩ : ∃ m, n = m + 1 := ⟨n - 1, by omega⟩
  rw [hs n i (by omega) hq, List.range'_succ, List.findSome?_cons]
  cases h : q i with
  | none => exact ih n (i + 1) (by omega) (by omega) fun j hj => (by
    rcases Nat.lt_or_ge j i with h2 | h2
    ·exact hq j h2
    ·obtain rfl : j = i := by omega
     exact h)
  | some b => rfl
theorem loop_first {q : Nat → Option β} {kb : β → Option R} (hs : ∀ n i, i < len → (∀ j, j < i → q j = none) → l (n + 1) i = match q i with | some b => kb b | none => l n (i + 1)) (he : (∀ j, j < len → q j = none) → ∀ n, l (n + 1) len = k1) {N : Nat} (hN : len < N) :
  l N 0 = match (List.range' 0 len).findSome? q with | some b => kb b | none => k1 :=
 loop_first' hs he len N 0 (by omega) hN fun j hj => absurd hj (by omega)
theorem loop_all {p : Nat → Bool} (hs : ∀ n i, i < len → (∀ j, j < i → p j = true) → l (n + 1) i = if p i then l n (i + 1) else k0) (he : (∀ j, j < len → p j = true) → ∀ n, l (n + 1) len = k1) {N : Nat} (hN : len < N) :
  l N 0 = if (List.range' 0 len).all p then k1 else k0 := by
 have := loop_first (l := l) (len := len) (k1 := k1) (q := fun i => if p i then none else some ()) (kb := fun _ => k0)
  (fun n i hi hq => by
   rw [hs n i hi fun j hj => by
    have := hq j hj
    cases hp : p j with
    | true => rfl
    | false => simp [hp] at this]
   cases p i <;> rfl)
  (fun hq n => he (fun j hj => by
   have := hq j hj
   cases hp : p j with
   | true => rfl
   | false => simp [hp] at this) n) hN
 rw [this]
 generalize List.range' 0 len = L
 clear this hs he
 induction L with
 | nil => rfl
 | cons a L ih =>
  rw [List.findSome?_cons, List.all_cons]
  cases hp : p a with
  | false => simp
  | true => simpa using ih
theorem all_range {p : Nat → Bool} {len : Nat} : (List.range' 0 len).all p = true ↔ ∀ i, i < len → p i = true := by
 rw [List.all_eq_true]
 exact ⟨fun h i hi => h i (by rw [List.mem_range']; exact ⟨i, hi, by omega⟩), fun h i hi => by
  rw [List.mem_range'] at hi
  obtain ⟨j, hj, rfl⟩ := hi
  exact h _ (by omega)⟩
theorem first_none {q : Nat → Option β} {len : Nat} : (List.range' 0 len).findSome? q = none ↔ ∀ i, i < len → q i = none := by
 rw [List.findSome?_eq_none_iff]
 exact ⟨fun h i hi => h i (by rw [List.mem_range']; exact ⟨i, hi, by omega⟩), fun h i hi => by
  rw [List.mem_range'] at hi
  obtain ⟨j, hj, rfl⟩ := hi
  exact h _ (by omega)⟩
end loops
theorem nth_map0 {α β : Type} (f : α → β) (l : List α) (i : Nat) : nth (l.map f) i = (nth l i).map f := by rw [nth_eq, nth_eq, List.getElem?_map]
theorem setAt_map {α β : Type} (f : α → β) (l : List α) (i : Nat) (v : α) : setAt (l.map f) i (f v) = (setAt l i v).map f := by rw [setAt_eq, setAt_eq, List.map_set]
theorem nth_get {α : Type} {l : List α} {i : Nat} (h : i < l.length) : nth l i = some l[i] := by rw [nth_eq, List.getElem?_eq_getElem h]
theorem nth_setAt_at {α : Type} {l : List α} {i : Nat} {v : α} (h : i < l.length) : nth (setAt l i v) i = some v := by rw [nth_eq, setAt_eq, List.getElem?_set_self h]
theorem mapSome_self {α : Type} {f : α → Option α} : ∀ {l : List α}, (∀ v ∈ l, f v = some v) → mapSome f l = some l
 | [], _ => rfl
 | a :: l, h => by
  simp only [mapSome, h a (by simp), mapSome_self (l := l) fun v hv => h v (by simp [hv])]
def inR (a b c : Int) : Bool := decide (b ≤ a) && decide (a ≤ c)
theorem inR_iff {a b c : Int} : inR a b c = true ↔ b ≤ a ∧ a ≤ c := by simp [inR]
theorem wrap_succ {i : Nat} (h : i < 9223372036854775807) : IntKind.i64.wrap ((i : Int) + 1) = ((i + 1 : Nat) : Int) := by
 rw [wrap_i64 (by omega) (by omega)]; rfl
theorem lt_true {i n : Nat} (h : i < n) : decide ((i : Int) < (n : Int)) = true := decide_eq_true (by omega)
abbrev Ent := ByteArray × Int
structure Nod where
 kind : Int
 mode : Int
 uid : Int
 gid : Int
 time : Int
 data : ByteArray
 es : List Ent
instance : Inhabited Nod := ⟨⟨0, 0, 0, 0, 0, ByteArray.mk #[], []⟩⟩
instance : Inhabited Ent := ⟨(ByteArray.mk #[], 0)⟩
def entV (e : Ent) : V := .agg [.str e.1, .int .i64 e.2]
def entsV (l : List Ent) : List V := l.map entV
def nodV (n : Nod) : V := .agg [.int .i64 n.kind, .int .i64 n.mode, .int .i64 n.uid, .int .i64 n.gid, .int .i64 n.time, .str n.data, .list 2 (entsV n.es) .sh]
def nodsV (l : List Nod) : List V := l.map nodV
def strsV (l : List ByteArray) : List V := l.map V.str
def intsV (l : List Int) : List V := l.map (V.int .i64)
def at_ {α : Type} [Inhabited α] (l : List α) (i : Nat) : α := l.getD i default
theorem at_get {α : Type} [Inhabited α] {l : List α} {i : Nat} (h : i < l.length) : at_ l i = l[i] := by
 simp [at_, List.getD_eq_getElem?_getD, List.getElem?_eq_getElem h]
theorem at_mem {α : Type} [Inhabited α] {l : List α} {i : Nat} (h : i < l.length) : at_ l i ∈ l := by rw [at_get h]; exact List.getElem_mem h
theorem len_ents (l : List Ent) : (entsV l).length = l.length := by simp [entsV]
theorem len_nods (l : List Nod) : (nodsV l).length = l.length := by simp [nodsV]
theorem len_strs (l : List ByteArray) : (strsV l).length = l.length := by simp [strsV]
theorem len_ints (l : List Int) : (intsV l).length = l.length := by simp [intsV]
theorem nth_ents {l : List Ent} {i : Nat} (h : i < l.length) : nth (entsV l) i = some (entV (at_ l i)) := by rw [entsV, nth_map0, nth_get h, at_get h]; rfl
theorem nth_nods {l : List Nod} {i : Nat} (h : i < l.length) : nth (nodsV l) i = some (nodV (at_ l i)) := by rw [nodsV, nth_map0, nth_get h, at_get h]; rfl
theorem nth_strs {l : List ByteArray} {i : Nat} (h : i < l.length) : nth (strsV l) i = some (.str (at_ l i)) := by rw [strsV, nth_map0, nth_get h, at_get h]; rfl
theorem nth_ints {l : List Int} {i : Nat} (h : i < l.length) : nth (intsV l) i = some (.int .i64 (at_ l i)) := by rw [intsV, nth_map0, nth_get h, at_get h]; rfl
variable {R : Type}
theorem un_lent (e : Ent) (k : ByteArray → Int → Option R) : un_laws_Entry (entV e) k = k e.1 e.2 := rfl
theorem un_ient (e : Ent) (k : ByteArray → Int → Option R) : un_impl_Entry (entV e) k = k e.1 e.2 := rfl
theorem un_lnod (n : Nod) (k : Int → Int → Int → Int → Int → ByteArray → List V → Fl → Option R) : un_laws_Node (nodV n) k = k n.kind n.mode n.uid n.gid n.time n.data (entsV n.es) .sh := rfl
theorem un_inod (n : Nod) (k : Int → Int → Int → Int → Int → ByteArray → List V → Fl → Option R) : un_impl_Node (nodV n) k = k n.kind n.mode n.uid n.gid n.time n.data (entsV n.es) .sh := rfl
theorem must_some (v : V) (k : V → Option R) : must (some v) k = k v := rfl
theorem asStr_str (b : ByteArray) (k : ByteArray → Option R) : asStr (.str b) k = k b := rfl
theorem asInt_int (n : Int) (k : Int → Option R) : asInt .i64 (.int .i64 n) k = k n := rfl
theorem asBool_bool (b : Bool) (k : Bool → Option R) : asBool (.bool b) k = k b := rfl
def sumTo (g : Nat → Nat) : Nat → Nat
 | 0 => 0
 | n + 1 => sumTo g n + g n
theorem sumTo_le (g : Nat → Nat) : ∀ {a b : Nat}, a ≤ b → sumTo g a ≤ sumTo g b := by
 intro a b h
 induction b with
 | zero =>
  obtain rfl : a = 0 := by omega
  exact Nat.le_refl _
 | succ b ih =>
  rcases Nat.lt_or_ge a (b + 1) with h2 | h2
  ·exact Nat.le_trans (ih (by omega)) (Nat.le_add_right _ _)
  ·obtain rfl : a = b + 1 := by omega
   exact Nat.le_refl _
theorem sumTo_at (g : Nat → Nat) {i n : Nat} (h : i < n) : g i ≤ sumTo g n := Nat.le_trans (Nat.le_add_left _ _) (sumTo_le g (a := i + 1) h)
def entsSz (l : List Ent) : Nat := l.length + sumTo (fun i => (at_ l i).1.size) l.length
def nodSz (n : Nod) : Nat := n.data.size + entsSz n.es
def fsSz (l : List Nod) : Nat := l.length + sumTo (fun i => nodSz (at_ l i)) l.length
def NodOk (n : Nod) : Prop := n.data.size ≤ 9223372036854775807 ∧ n.es.length ≤ 9223372036854775807 ∧ ∀ i, i < n.es.length → (at_ n.es i).1.size ≤ 9223372036854775807
def FsOk (l : List Nod) : Prop := l.length ≤ 9223372036854775807 ∧ ∀ i, i < l.length → NodOk (at_ l i)
def left (x : Int) (n : Nat) : Int := if (n : Int) ≤ x then x - n else -1
theorem left_ge {x : Int} {n : Nat} (h : (n : Int) ≤ x) : left x n = x - n := if_pos h
theorem left_lt {x : Int} {n : Nat} (h : ¬ (n : Int) ≤ x) : left x n = -1 := if_neg h
variable (N : Nat)
theorem t_szEntry (w : ByteArray) (n x : Int) (hw : w.size ≤ 9223372036854775807) (h0 : 0 ≤ x) (h1 : x ≤ 1048576) (k : Int → Option R) : g_zch N w n x k = k (left x w.size) := by
 rw [g_zch_eq]
 unfold gb_zch left
 rw [wrap_i64 (by omega) (by omega)]
 by_cases h : (w.size : Int) ≤ x
 ·rw [decide_eq_false (by omega), if_pos h]
 ·rw [decide_eq_true (by omega), if_neg h]
theorem t_szEntryS {l : List Ent} (hl : l.length ≤ 9223372036854775807) (hz : ∀ i, i < l.length → (at_ l i).1.size ≤ 9223372036854775807) (hN : 1048576 < N) (f : Fl) (x : Int) (h0 : 0 ≤ x) (h1 : x ≤ 1048576) (k : Int → Option R) :
  g_zbu N (entsV l) f x k = k (left x (entsSz l)) := by
 rw [g_zbu_eq]
 unfold gb_zbu
 rw [len_ents, wrap_i64 (by omega) (by omega)]
 by_cases h : (l.length : Int) ≤ x
 ·rw [decide_eq_false (by omega)]
  let g := fun i => (at_ l i).1.size
  have ge : ∀ i, sumTo g (i + 1) = sumTo g i + (at_ l i).1.size := fun i => rfl
  have e0 : x - (l.length : Int) = x - l.length - (sumTo g 0 : Nat) := by simp [sumTo]
  show l_zbu_0 N (entsV l) f (fun _ => k (-1)) (fun x => k x) N (x - l.length) 0 = _
  rw [e0]
  refine (loop_all (l := fun n i => l_zbu_0 N (entsV l) f (fun _ => k (-1)) (fun x => k x) n (x - l.length - sumTo g i) (i : Int)) (len := l.length)
   (p := fun i => decide (0 ≤ x - l.length - sumTo g (i + 1))) (k0 := k (-1)) (k1 := k (x - l.length - sumTo g l.length)) ?_ ?_ (show l.length < N by omega)).trans ?_
  ·intro n i hi hq
   have hn : 0 ≤ x - l.length - sumTo g i := by
    cases i with
    | zero => simp only [sumTo]; omega
    | succ i => exact of_decide_eq_true (hq i (by omega))
   simp only [l_zbu_0, l_zbu_0_step, len_ents, lt_true hi, Int.natCast_nonneg, if_true, Int.toNat_natCast, nth_ents hi, must_some, un_lent]
   rw [t_szEntry N _ _ _ (hz i hi) hn (by omega)]
   simp only [ge]
   by_cases h3 : ((at_ l i).1.size : Int) ≤ x - l.length - sumTo g i
   ·rw [left_ge h3, decide_eq_true (p := 0 ≤ _) (by omega), decide_eq_false (by omega), wrap_succ (i := i) (by omega)]
    simp only [Int.natCast_add, Int.sub_sub, Int.add_assoc, if_true]
   ·rw [left_lt h3, decide_eq_false (p := 0 ≤ _) (by omega)]
    simp
  ·intro _ n
   simp only [l_zbu_0, l_zbu_0_step, len_ents, Int.lt_irrefl, decide_false]
  ·have hall : (List.range' 0 l.length).all (fun i => decide (0 ≤ x - l.length - sumTo g (i + 1))) = decide (0 ≤ x - l.length - sumTo g l.length) := by
    rw [Bool.eq_iff_iff, all_range]
    constructor
    ·intro hq
     rcases Nat.eq_zero_or_pos l.length with hz0 | hz0
     ·have e1 : sumTo g l.length = 0 := by rw [hz0]; rfl
      rw [e1]
      exact decide_eq_true (by omega)
     ·obtain ⟨m, hm⟩ : ∃ m, l.length = m + 1 := ⟨l.length - 1, by omega⟩
      have := hq m (by omega)
      rwa [← hm] at this
    ·intro hq i hi
     have := of_decide_eq_true hq
     have := sumTo_le g (a := i + 1) (b := l.length) (by omega)
     exact decide_eq_true (by omega)
   rw [hall]
   have e : entsSz l = l.length + sumTo g l.length := rfl
   simp only [left, e]
   by_cases h4 : 0 ≤ x - l.length - sumTo g l.length
   ·rw [decide_eq_true h4, if_pos rfl, if_pos (by omega)]
    simp only [Int.natCast_add, Int.sub_sub]
   ·rw [decide_eq_false h4, if_neg (by simp), if_neg (by omega)]
 ·rw [decide_eq_true (by omega)]
  rw [left_lt]
  unfold entsSz
  omega
theorem t_szNode {n : Nod} (hn : NodOk n) (hN : 1048576 < N) (f : Fl) (x : Int) (h0 : 0 ≤ x) (h1 : x ≤ 1048576) (k : Int → Option R) :
  g_zdd N n.kind n.mode n.uid n.gid n.time n.data (entsV n.es) f x k = k (left x (nodSz n)) := by
 rw [g_zdd_eq]
 unfold gb_zdd nodSz
 have := hn.1
 rw [wrap_i64 (by omega) (by omega)]
 by_cases h : (n.data.size : Int) ≤ x
 ·rw [decide_eq_false (by omega)]
  simp only
  rw [t_szEntryS N hn.2.1 hn.2.2 hN _ _ (by omega) (by omega)]
  by_cases h2 : (entsSz n.es : Int) ≤ x - n.data.size
  ·rw [left_ge h2, left_ge (by omega), decide_eq_false (by omega)]
   simp only [Int.natCast_add, Int.sub_sub]
  ·rw [left_lt h2, left_lt (by omega)]
   rfl
 ·rw [decide_eq_true (by omega), left_lt (by omega)]
theorem t_szNodeS {l : List Nod} (hl : FsOk l) (hN : 1048576 < N) (f : Fl) (x : Int) (h0 : 0 ≤ x) (h1 : x ≤ 1048576) (k : Int → Option R) :
  g_zci N (nodsV l) f x k = k (left x (fsSz l)) := by
 rw [g_zci_eq]
 unfold gb_zci
 have hll := hl.1
 rw [len_nods, wrap_i64 (by omega) (by omega)]
 by_cases h : (l.length : Int) ≤ x
 ·rw [decide_eq_false (by omega)]
  let g := fun i => nodSz (at_ l i)
  have ge : ∀ i, sumTo g (i + 1) = sumTo g i + nodSz (at_ l i) := fun i => rfl
  have e0 : x - (l.length : Int) = x - l.length - (sumTo g 0 : Nat) := by simp [sumTo]
  show l_zci_0 N (nodsV l) f (fun _ => k (-1)) (fun x => k x) N (x - l.length) 0 = _
  rw [e0]
  refine (loop_all (l := fun n i => l_zci_0 N (nodsV l) f (fun _ => k (-1)) (fun x => k x) n (x - l.length - sumTo g i) (i : Int)) (len := l.length)
   (p := fun i => decide (0 ≤ x - l.length - sumTo g (i + 1))) (k0 := k (-1)) (k1 := k (x - l.length - sumTo g l.length)) ?_ ?_ (show l.length < N by omega)).trans ?_
  ·intro n i hi hq
   have hn : 0 ≤ x - l.length - sumTo g i := by
    cases i with
    | zero => simp only [sumTo]; omega
    | succ i => exact of_decide_eq_true (hq i (by omega))
   simp only [l_zci_0, l_zci_0_step, len_nods, lt_true hi, Int.natCast_nonneg, if_true, Int.toNat_natCast, nth_nods hi, must_some, un_lnod]
   rw [t_szNode N (hl.2 i hi) hN _ _ hn (by omega)]
   simp only [ge]
   by_cases h3 : (nodSz (at_ l i) : Int) ≤ x - l.length - sumTo g i
   ·rw [left_ge h3, decide_eq_true (p := 0 ≤ _) (by omega), decide_eq_false (by omega), wrap_succ (i := i) (by omega)]
    simp only [Int.natCast_add, Int.sub_sub, Int.add_assoc, if_true]
   ·rw [left_lt h3, decide_eq_false (p := 0 ≤ _) (by omega)]
    simp
  ·intro _ n
   simp only [l_zci_0, l_zci_0_step, len_nods, Int.lt_irrefl, decide_false]
  ·have hall : (List.range' 0 l.length).all (fun i => decide (0 ≤ x - l.length - sumTo g (i + 1))) = decide (0 ≤ x - l.length - sumTo g l.length) := by
    rw [Bool.eq_iff_iff, all_range]
    constructor
    ·intro hq
     rcases Nat.eq_zero_or_pos l.length with hz0 | hz0
     ·have e1 : sumTo g l.length = 0 := by rw [hz0]; rfl
      rw [e1]
      exact decide_eq_true (by omega)
     ·obtain ⟨m, hm⟩ : ∃ m, l.length = m + 1 := ⟨l.length - 1, by omega⟩
      have := hq m (by omega)
      rwa [← hm] at this
    ·intro hq i hi
     have := of_decide_eq_true hq
     have := sumTo_le g (a := i + 1) (b := l.length) (by omega)
     exact decide_eq_true (by omega)
   rw [hall]
   have e : fsSz l = l.length + sumTo g l.length := rfl
   simp only [left, e]
   by_cases h4 : 0 ≤ x - l.length - sumTo g l.length
   ·rw [decide_eq_true h4, if_pos rfl, if_pos (by omega)]
    simp only [Int.natCast_add, Int.sub_sub]
   ·rw [decide_eq_false h4, if_neg (by simp), if_neg (by omega)]
 ·rw [decide_eq_true (by omega)]
  rw [left_lt]
  unfold fsSz
  omega
theorem t_szFs {l : List Nod} (hl : FsOk l) (hN : 1048576 < N) (f : Fl) (room x : Int) (h0 : 0 ≤ x) (h1 : x ≤ 1048576) (k : Int → Option R) :
  g_zdv N (nodsV l) f room x k = k (left x (fsSz l)) := by
 rw [g_zdv_eq]
 unfold gb_zdv
 rw [t_szNodeS N hl hN _ _ h0 h1]
 by_cases h : (fsSz l : Int) ≤ x
 ·rw [left_ge h, decide_eq_false (by omega)]
 ·rw [left_lt h]; rfl
structure Small (l : List Nod) : Prop where
 len : l.length ≤ 1048576
 data : ∀ i, i < l.length → (at_ l i).data.size ≤ 1048576
 es : ∀ i, i < l.length → (at_ l i).es.length ≤ 1048576
 sum : sumTo (fun i => (at_ l i).data.size) l.length ≤ 1048576
 ents : sumTo (fun i => (at_ l i).es.length) l.length ≤ 1048576
 name : ∀ i, i < l.length → ∀ j, j < (at_ l i).es.length → (at_ (at_ l i).es j).1.size ≤ 1048576
theorem sumTo_mono {g h : Nat → Nat} (hg : ∀ i, g i ≤ h i) : ∀ n, sumTo g n ≤ sumTo h n
 | 0 => Nat.le_refl _
 | n + 1 => Nat.add_le_add (sumTo_mono hg n) (hg n)
theorem Small.of {l : List Nod} (h : fsSz l ≤ 1048576) : Small l := by
 unfold fsSz at h
 have h1 : ∀ i, i < l.length → nodSz (at_ l i) ≤ 1048576 := fun i hi => Nat.le_trans (sumTo_at (fun i => nodSz (at_ l i)) hi) (by omega)
 refine ⟨by omega, fun i hi => ?_, fun i hi => ?_, ?_, ?_, fun i hi j hj => ?_⟩
 ·have := h1 i hi; unfold nodSz at this; omega
 ·have := h1 i hi; unfold nodSz entsSz at this; omega
 ·have := sumTo_mono (g := fun i => (at_ l i).data.size) (h := fun i => nodSz (at_ l i)) (fun i => by simp only [nodSz]; omega) l.length
  omega
 ·have := sumTo_mono (g := fun i => (at_ l i).es.length) (h := fun i => nodSz (at_ l i)) (fun i => by simp only [nodSz, entsSz]; omega) l.length
  omega
 ·have := h1 i hi
  unfold nodSz entsSz at this
  have := sumTo_at (fun j => (at_ (at_ l i).es j).1.size) hj
  omega
end Go.VM.VL
set_option linter.unusedSimpArgs false
set_option linter.unusedVariables false
namespace Go.VM.VL
def sofar (xs : List V) (z : V) (i : Nat) : List V := xs.take i ++ List.replicate (xs.length - i) z
theorem sofar_len (xs : List V) (z : V) {i : Nat} (h : i ≤ xs.length) : (sofar xs z i).length = xs.length := by
 simp only [sofar, List.length_append, List.length_take, List.length_replicate]; omega
theorem sofar_nth (xs : List V) (z : V) {i : Nat} (h : i < xs.length) : nth (sofar xs z i) i = some z := by
 rw [nth_eq, sofar, List.getElem?_append_right (by simp only [List.length_take]; omega)]
 rw [List.getElem?_replicate, if_pos (by simp; omega)]
theorem sofar_put (xs : List V) (z v : V) {i : Nat} (h : i < xs.length) (hv : nth xs i = some v) : setAt (sofar xs z i) i v = sofar xs z (i + 1) := by
 have hv' : xs[i]? = some v := by rw [← nth_eq]; exact hv
 rw [setAt_eq]
 apply List.ext_getElem?
 intro j
 rw [List.getElem?_set]
 have hlen := sofar_len xs z (i := i) (by omega)
 have hT : (xs.take i).length = i := by simp; omega
 have hT2 : (xs.take (i + 1)).length = i + 1 := by simp; omega
 by_cases hij : i = j
 ·subst hij
  rw [if_pos rfl, if_pos (by omega)]
  unfold sofar
  rw [List.getElem?_append_left (by omega), List.getElem?_take_of_lt (by omega), hv']
 ·rw [if_neg hij]
  unfold sofar
  rcases Nat.lt_or_ge j i with h2 | h2
  ·rw [List.getElem?_append_left (by omega), List.getElem?_append_left (by omega), List.getElem?_take_of_lt (by omega), List.getElem?_take_of_lt (by omega)]
  ·rw [List.getElem?_append_right (by omega), List.getElem?_append_right (by omega), List.getElem?_replicate, List.getElem?_replicate, hT, hT2]
   by_cases h3 : j - i < xs.length - i
   ·rw [if_pos h3, if_pos (by omega)]
   ·rw [if_neg h3, if_neg (by omega)]
theorem sofar_zero (xs : List V) (z : V) : sofar xs z 0 = List.replicate xs.length z := by simp [sofar]
theorem sofar_all (xs : List V) (z : V) : sofar xs z xs.length = xs := by simp [sofar]
variable {R : Type} (N : Nat)
theorem freeze_ent (s : S) (e : Ent) : freeze false s 11 (entV e) = some (entV e) := rfl
theorem freeze_nod (s : S) (n : Nod) : freeze false s 11 (nodV n) = some (nodV n) := rfl
theorem plain_ents (l : List Ent) : (entsV l).all V.plain = true := by
 rw [List.all_eq_true]; intro v hv
 obtain ⟨e, _, rfl⟩ := List.mem_map.1 hv
 rfl
theorem plain_nods (l : List Nod) : (nodsV l).all V.plain = true := by
 rw [List.all_eq_true]; intro v hv
 obtain ⟨e, _, rfl⟩ := List.mem_map.1 hv
 rfl
theorem t_toEntry (w : ByteArray) (n : Int) (k : ByteArray → Int → Option R) : g_zcj N w n k = k w n := by rw [g_zcj_eq]; rfl
theorem toEntryS_l {l : List Ent} (hl : l.length ≤ 1048576) (hN : 1048576 < N) (f : Fl) (z : V) (hp : ∀ e : Ent, putCells z 0 [.str e.1, .int .i64 e.2] = some (entV e)) (k0 : List V → Option R) :
  l_zbv_0 N (entsV l) f l.length k0 N 0 (List.replicate l.length z) = k0 (entsV l) := by
 have e0 : List.replicate l.length z = sofar (entsV l) z 0 := by rw [sofar_zero, len_ents]
 rw [e0]
 refine loop_run (l := fun n i => l_zbv_0 N (entsV l) f l.length k0 n (i : Int) (sofar (entsV l) z i)) (len := l.length) (k1 := k0 (entsV l)) ?_ ?_ (show l.length < N by omega)
 ·intro n i hi
  have hi' : i < (entsV l).length := by rw [len_ents]; exact hi
  simp only [l_zbv_0, l_zbv_0_step, len_ents, lt_true hi, Int.natCast_nonneg, if_true, Int.toNat_natCast, nth_ents hi, must_some, un_lent, t_toEntry, Nat.zero_add, sofar_nth _ _ hi', hp]
  rw [if_pos ⟨trivial, by omega⟩, wrap_succ (i := i) (by omega), ← sofar_put (entsV l) z _ hi' (nth_ents hi)]
 ·intro n
  simp only [l_zbv_0, l_zbv_0_step, len_ents, Int.lt_irrefl, decide_false]
  rw [show sofar (entsV l) z l.length = entsV l by rw [← len_ents l]; exact sofar_all _ _]
theorem t_toEntryS {l : List Ent} (hl : l.length ≤ 1048576) (hN : 1048576 < N) (f : Fl) (k : List V → Option R) : g_zbv N (entsV l) f k = k (entsV l) := by
 rw [g_zbv_eq]
 unfold gb_zbv
 rw [len_ents, if_pos ⟨by omega, rfl, by omega⟩, Int.toNat_natCast]
 refine (toEntryS_l N hl hN f _ (fun e => rfl) _).trans ?_
 simp only [List.drop_zero]
 rw [List.take_of_length_le (by rw [len_ents]; exact Nat.le_refl _),
   mapSome_self fun v hv => by obtain ⟨e, _, rfl⟩ := List.mem_map.1 hv; rfl]
 simp only [plain_ents, len_ents, Nat.zero_add, Nat.le_refl, decide_true, guardB]
theorem t_toNode {n : Nod} (hl : n.es.length ≤ 1048576) (hN : 1048576 < N) (f : Fl) (k : Int → Int → Int → Int → Int → ByteArray → List V → Option R) :
  g_zdf N n.kind n.mode n.uid n.gid n.time n.data (entsV n.es) f k = k n.kind n.mode n.uid n.gid n.time n.data (entsV n.es) := by
 rw [g_zdf_eq]; unfold gb_zdf; rw [t_toEntryS N hl hN]
theorem toNodeS_l {l : List Nod} (hl : Small l) (hN : 1048576 < N) (f : Fl) (z : V) (hp : ∀ n : Nod, putCells z 0 [.int .i64 n.kind, .int .i64 n.mode, .int .i64 n.uid, .int .i64 n.gid, .int .i64 n.time, .str n.data, .list 2 (entsV n.es) .sh] = some (nodV n)) (k0 : List V → Option R) :
  l_zck_0 N (nodsV l) f l.length k0 N 0 (List.replicate l.length z) = k0 (nodsV l) := by
 have hll := hl.len
 have e0 : List.replicate l.length z = sofar (nodsV l) z 0 := by rw [sofar_zero, len_nods]
 rw [e0]
 refine loop_run (l := fun n i => l_zck_0 N (nodsV l) f l.length k0 n (i : Int) (sofar (nodsV l) z i)) (len := l.length) (k1 := k0 (nodsV l)) ?_ ?_ (show l.length < N by omega)
 ·intro n i hi
  have hi' : i < (nodsV l).length := by rw [len_nods]; exact hi
  simp only [l_zck_0, l_zck_0_step, len_nods, lt_true hi, Int.natCast_nonneg, if_true, Int.toNat_natCast, nth_nods hi, must_some, un_lnod, t_toNode N (hl.es i hi) hN, Nat.zero_add, sofar_nth _ _ hi', hp]
  rw [if_pos ⟨trivial, by omega⟩, wrap_succ (i := i) (by omega), ← sofar_put (nodsV l) z _ hi' (nth_nods hi)]
 ·intro n
  simp only [l_zck_0, l_zck_0_step, len_nods, Int.lt_irrefl, decide_false]
  rw [show sofar (nodsV l) z l.length = nodsV l by rw [← len_nods l]; exact sofar_all _ _]
theorem t_toNodeS {l : List Nod} (hl : Small l) (hN : 1048576 < N) (f : Fl) (k : List V → Option R) : g_zck N (nodsV l) f k = k (nodsV l) := by
 rw [g_zck_eq]
 unfold gb_zck
 have hll := hl.len
 rw [len_nods, if_pos ⟨by omega, rfl, by omega⟩, Int.toNat_natCast]
 refine (toNodeS_l N hl hN f _ (fun n => rfl) _).trans ?_
 simp only [List.drop_zero]
 rw [List.take_of_length_le (by rw [len_nods]; exact Nat.le_refl _),
   mapSome_self fun v hv => by obtain ⟨e, _, rfl⟩ := List.mem_map.1 hv; rfl]
 simp only [plain_nods, len_nods, Nat.zero_add, Nat.le_refl, decide_true, guardB]
theorem t_toFs {l : List Nod} (hl : Small l) (hN : 1048576 < N) (f : Fl) (room : Int) (k : List V → Int → Option R) : g_zdw N (nodsV l) f room k = k (nodsV l) room := by
 rw [g_zdw_eq]; unfold gb_zdw; rw [t_toNodeS N hl hN]
theorem t_toCred (a b : Int) (k : Int → Int → Option R) : g_zde N a b k = k a b := by rw [g_zde_eq]; rfl
theorem t_eqEntry (w : ByteArray) (n : Int) (k : Bool → Option R) : g_zcf N w n w n k = k true := by
 rw [g_zcf_eq]; unfold gb_zcf; simp
theorem t_eqEntryS {l : List Ent} (hl : l.length ≤ 1048576) (hN : 1048576 < N) (f g : Fl) (k : Bool → Option R) : g_zbt N (entsV l) f (entsV l) g k = k true := by
 rw [g_zbt_eq]
 unfold gb_zbt
 simp only [bne_self_eq_false]
 refine loop_run (l := fun n i => l_zbt_0 N (entsV l) f (entsV l) g (fun _ => k false) (fun _ => k true) n (i : Int)) (len := l.length) (k1 := k true) ?_ ?_ (show l.length < N by omega)
 ·intro n i hi
  simp only [l_zbt_0, l_zbt_0_step, len_ents, lt_true hi, Int.natCast_nonneg, if_true, Int.toNat_natCast, nth_ents hi, must_some, un_ient, t_eqEntry, Bool.not_true]
  rw [wrap_succ (i := i) (by omega)]
 ·intro n
  simp only [l_zbt_0, l_zbt_0_step, len_ents, Int.lt_irrefl, decide_false]
theorem t_eqNode {n : Nod} (hl : n.es.length ≤ 1048576) (hN : 1048576 < N) (f g : Fl) (k : Bool → Option R) :
  g_zdc N n.kind n.mode n.uid n.gid n.time n.data (entsV n.es) f n.kind n.mode n.uid n.gid n.time n.data (entsV n.es) g k = k true := by
 rw [g_zdc_eq]; unfold gb_zdc; simp only [bne_self_eq_false, beq_self_eq_true, Bool.not_true, t_eqEntryS N hl hN]
theorem t_eqNodeS {l : List Nod} (hl : Small l) (hN : 1048576 < N) (f g : Fl) (k : Bool → Option R) : g_zcg N (nodsV l) f (nodsV l) g k = k true := by
 rw [g_zcg_eq]
 unfold gb_zcg
 have hll := hl.len
 simp only [bne_self_eq_false]
 refine loop_run (l := fun n i => l_zcg_0 N (nodsV l) f (nodsV l) g (fun _ => k false) (fun _ => k true) n (i : Int)) (len := l.length) (k1 := k true) ?_ ?_ (show l.length < N by omega)
 ·intro n i hi
  simp only [l_zcg_0, l_zcg_0_step, len_nods, lt_true hi, Int.natCast_nonneg, if_true, Int.toNat_natCast, nth_nods hi, must_some, un_inod, t_eqNode N (hl.es i hi) hN, Bool.not_true]
  rw [wrap_succ (i := i) (by omega)]
 ·intro n
  simp only [l_zcg_0, l_zcg_0_step, len_nods, Int.lt_irrefl, decide_false]
theorem t_eqFs {l : List Nod} (hl : Small l) (hN : 1048576 < N) (f g : Fl) (room : Int) (k : Bool → Option R) : g_zdu N (nodsV l) f room (nodsV l) g room k = k true := by
 rw [g_zdu_eq]; unfold gb_zdu; rw [t_eqNodeS N hl hN]; simp only [bne_self_eq_false, Bool.not_true]
end Go.VM.VL
set_option linter.unusedSimpArgs false
set_option linter.unusedVariables false
namespace Go.VM.VL
open Go
abbrev bl (w : ByteArray) : List UInt8 := w.data.toList
def ba (l : List UInt8) : ByteArray := ⟨⟨l⟩⟩
theorem ba_bl (w : ByteArray) : ba (bl w) = w := rfl
theorem bl_ba (l : List UInt8) : bl (ba l) = l := rfl
theorem size_bl (w : ByteArray) : w.size = (bl w).length := Array.length_toList.symm
theorem bl_extract (w : ByteArray) (a b : Nat) : bl (ByteArray.extract w a b) = ((bl w).take b).drop a := by
 rw [bl, ByteArray.data_extract, Array.toList_extract, List.extract_eq_take_drop, List.drop_take]
theorem ext_extract (w : ByteArray) (a b : Nat) : ByteArray.extract w a b = ba (((bl w).take b).drop a) := by rw [← bl_extract]; rfl
variable {R : Type} (N : Nat)
theorem byteAt_nat (w : ByteArray) {i : Nat} (h : i < (bl w).length) (k : Int → Option R) : byteAt w (i : Int) k = k ((at_ (bl w) i).toNat : Int) := by
 unfold byteAt
 rw [if_pos (by omega), Int.toNat_natCast]
 have e : w.data[i]? = some (bl w)[i] := by rw [← Array.getElem?_toList, List.getElem?_eq_getElem h]
 rw [e, at_get h]
theorem t_zdb (a b c : Int) (k : Bool → Option R) : g_zdb N a b c k = k (inR a b c) := by
 rw [g_zdb_eq]
 unfold gb_zdb inR
 by_cases h : b ≤ a
 ·rw [decide_eq_true (show a ≥ b from h)]; simp
 ·rw [decide_eq_false (show ¬ a ≥ b from h)]; simp
theorem t_zdx (a b c : Int) (k : Bool → Option R) : g_zdx N a b c k = k (inR a b c) := by
 rw [g_zdx_eq]
 unfold gb_zdx inR
 by_cases h : b ≤ a
 ·rw [decide_eq_true (show a ≥ b from h)]; simp
 ·rw [decide_eq_false (show ¬ a ≥ b from h)]; simp
def okByte (n : Int) : Bool := (!decide (n < 97) && !decide (n > 122)) || (!decide (n < 48) && !decide (n > 57)) || (n == 46) || (n == 95) || (n == 45)
def okBytes (w : ByteArray) : Bool := (List.range' 0 w.size).all fun i => okByte ((at_ (bl w) i).toNat : Int)
def partB (w : ByteArray) : Bool := okBytes w && inR (w.size : Int) 1 8
def dotB (w : ByteArray) : Bool := w.toList == (ByteArray.mk #[46]).toList
def dotsB (w : ByteArray) : Bool := w.toList == (ByteArray.mk #[46, 46]).toList
def emptyB (w : ByteArray) : Bool := w.toList == (ByteArray.mk #[]).toList
def nameB (w : ByteArray) : Bool := partB w && !dotB w && !dotsB w
theorem emptyB_iff (w : ByteArray) : emptyB w = decide (w.size = 0) := by
 unfold emptyB
 rw [ByteArray.toList_eq, ByteArray.toList_eq, size_bl]
 cases h : bl w with
 | nil => rw [show w.data.toList = [] from h]; rfl
 | cons a l => rw [show w.data.toList = a :: l from h]; rfl
theorem t_zdj {w : ByteArray} (hw : w.size ≤ 1048576) (hN : 1048576 < N) (k : Bool → Option R) : g_zdj N w k = k (nameB w) := by
 rw [g_zdj_eq]
 unfold gb_zdj
 rw [t_zdx]
 refine (loop_all (l := fun n i => l_zdj_0 N w _ _ n (i : Int)) (len := w.size) (p := fun i => okByte ((at_ (bl w) i).toNat : Int)) (k0 := k false) (k1 := (match inR (w.size : Int) 1 8 with
  | true => (match (!(w.toList == (ByteArray.mk #[46]).toList)) with
   | true => k (!(w.toList == (ByteArray.mk #[46, 46]).toList))
   | false => k false)
  | false => k false)) ?_ ?_ (show w.size < N by omega)).trans ?_
 ·intro n i hi _
  simp only [l_zdj_0, l_zdj_0_step, lt_true hi]
  rw [byteAt_nat w (by rw [← size_bl]; exact hi), wrap_succ (i := i) (by omega)]
  generalize l_zdj_0 N w _ _ n ((i + 1 : Nat) : Int) = X
  generalize ((at_ (bl w) i).toNat : Int) = x
  unfold okByte
  simp only [bne]
  generalize decide (x < 97) = a
  generalize decide (x > 122) = b
  generalize decide (x < 48) = c
  generalize decide (x > 57) = d
  generalize (x == 46) = e
  generalize (x == 95) = f
  generalize (x == 45) = g
  cases a <;> cases b <;> cases c <;> cases d <;> cases e <;> cases f <;> cases g <;> rfl
 ·intro _ n
  simp only [l_zdj_0, l_zdj_0_step, Int.lt_irrefl, decide_false]
  rfl
 ·show (if okBytes w = true then _ else _) = _
  unfold nameB partB dotB dotsB
  cases okBytes w <;> cases inR (w.size : Int) 1 8 <;> cases (w.toList == (ByteArray.mk #[46]).toList) <;> cases (w.toList == (ByteArray.mk #[46, 46]).toList) <;> rfl
theorem t_isNameByte (x : Int) (k : Bool → Option R) : g_zbb N x k = k (okByte x) := by
 rw [g_zbb_eq]
 unfold gb_zbb okByte
 rw [show decide (x ≥ 97) = !decide (x < 97) by by_cases h : x < 97 <;> simp [h] <;> omega, show decide (x ≤ 122) = !decide (x > 122) by by_cases h : x > 122 <;> simp [h] <;> omega,
  show decide (x ≥ 48) = !decide (x < 48) by by_cases h : x < 48 <;> simp [h] <;> omega, show decide (x ≤ 57) = !decide (x > 57) by by_cases h : x > 57 <;> simp [h] <;> omega]
 generalize decide (x < 97) = a
 generalize decide (x > 122) = b
 generalize decide (x < 48) = c
 generalize decide (x > 57) = d
 generalize (x == 46) = e
 generalize (x == 95) = f
 generalize (x == 45) = g
 cases a <;> cases b <;> cases c <;> cases d <;> cases e <;> cases f <;> cases g <;> rfl
theorem nth_bytesV {w : ByteArray} {i : Nat} (h : i < (bl w).length) : nth (bytesV w) i = some (.int .u8 ((at_ (bl w) i).toNat : Int)) := by
 rw [bytesV, nth_map0, nth_get h, at_get h]; rfl
theorem len_bytesV (w : ByteArray) : (bytesV w).length = w.size := by rw [bytesV, List.length_map]; exact Array.length_toList
theorem asInt_u8 (n : Int) (k : Int → Option R) : asInt .u8 (.int .u8 n) k = k n := rfl
def firstIx (q : Nat → Bool) (len : Nat) : Int := match (List.range' 0 len).findSome? (fun i => if q i then some i else none) with | some i => (i : Int) | none => -1
theorem firstIx_none {q : Nat → Bool} {len : Nat} : decide (firstIx q len ≥ 0) = !(List.range' 0 len).all (fun i => !q i) := by
 unfold firstIx
 cases h : (List.range' 0 len).findSome? (fun i => if q i then some i else none) with
 | none =>
  have h2 : (List.range' 0 len).all (fun i => !q i) = true := all_range.2 fun i hi => by
   have := first_none.1 h i hi
   cases hq : q i with
   | true => simp [hq] at this
   | false => rfl
  rw [h2]; rfl
 | some j =>
  have h2 : ¬ (List.range' 0 len).all (fun i => !q i) = true := fun h2 => by
   have h3 : (List.range' 0 len).findSome? (fun i => if q i then some i else none) = none := first_none.2 fun i hi => by
    have := all_range.1 h2 i hi
    cases hq : q i with
    | true => simp [hq] at this
    | false => rfl
   rw [h] at h3; cases h3
  rw [Bool.eq_false_iff.2 h2]
  simp
theorem t_isPart {w : ByteArray} (hw : w.size ≤ 1048576) (hN : 1048576 < N) (k : Bool → Option R) : g_zcy N w k = k (partB w) := by
 rw [g_zcy_eq]
 unfold gb_zcy
 rw [t_zdb]
 have hc : ∀ K : Bool → Option R, g_zae N (bytesV w) .sh K = K (!okBytes w) := by
  intro K
  rw [g_zae_eq]
  unfold gb_zae
  rw [g_zaf_eq]
  unfold gb_zaf
  rw [len_bytesV]
  refine (loop_first (β := Nat) (l := fun n i => l_zaf_0 N (bytesV w) _ (w.size : Int) _ _ n (i : Int)) (len := w.size) (q := fun i => if !okByte ((at_ (bl w) i).toNat : Int) then some i else none) (kb := fun i => K (decide ((i : Int) ≥ 0))) (k1 := K (decide ((-1 : Int) ≥ 0))) ?_ ?_ (show w.size < N by omega)).trans ?_
  ·intro n i hi _
   have hi' : i < (bl w).length := by rw [← size_bl]; exact hi
   simp only [l_zaf_0, l_zaf_0_step, lt_true hi, Int.natCast_nonneg, if_true, Int.toNat_natCast, nth_bytesV hi', must_some, asInt_u8]
   rw [g_zbh_eq]
   unfold gb_zbh
   rw [t_isNameByte, wrap_succ (i := i) (by omega)]
   cases okByte ((at_ (bl w) i).toNat : Int) <;> rfl
  ·intro _ n
   simp only [l_zaf_0, l_zaf_0_step, Int.lt_irrefl, decide_false]
  ·have := firstIx_none (q := fun i => !okByte ((at_ (bl w) i).toNat : Int)) (len := w.size)
   unfold firstIx at this
   unfold okBytes
   simp only [Bool.not_not] at this
   rw [← this]
   generalize (List.range' 0 w.size).findSome? _ = o
   cases o <;> rfl
 simp only [hc]
 unfold partB
 cases okBytes w <;> cases inR (w.size : Int) 1 8 <;> rfl
theorem t_GoodName {w : ByteArray} (hw : w.size ≤ 1048576) (hN : 1048576 < N) (k : Bool → Option R) : g_zbr N w k = k (nameB w) := by
 rw [g_zbr_eq]
 unfold gb_zbr
 rw [t_isPart N hw hN]
 rw [g_zcv_eq]
 unfold gb_zcv nameB dotB dotsB
 cases partB w <;> cases (w.toList == (ByteArray.mk #[46]).toList) <;> cases (w.toList == (ByteArray.mk #[46, 46]).toList) <;> rfl
end Go.VM.VL
set_option linter.unusedSimpArgs false
set_option linter.unusedVariables false
namespace Go.VM.VL
open Go
def splitL (c : UInt8) : List UInt8 → List (List UInt8)
 | [] => [[]]
 | b :: l => if b = c then [] :: splitL c l else match splitL c l with
  | p :: ps => (b :: p) :: ps
  | [] => [[b]]
theorem splitL_ne (c : UInt8) : ∀ l, splitL c l ≠ []
 | [] => by simp [splitL]
 | b :: l => by
  unfold splitL
  split
  ·simp
  ·split <;> simp
theorem splitL_len (c : UInt8) : ∀ l, (splitL c l).length = l.count c + 1
 | [] => rfl
 | b :: l => by
  have ih := splitL_len c l
  unfold splitL
  split
  ·rename_i h
   rw [List.length_cons, ih, h, List.count_cons_self]
  ·rename_i h
   rw [List.count_cons_of_ne h]
   cases h2 : splitL c l with
   | nil => exact absurd h2 (splitL_ne c l)
   | cons p ps => rw [h2] at ih; exact ih
def glue (x : List UInt8) : List (List UInt8) → List (List UInt8)
 | p :: ps => (x ++ p) :: ps
 | [] => [x]
theorem splitL_sep {c b : UInt8} (h : b = c) (l : List UInt8) : splitL c (b :: l) = [] :: splitL c l := by rw [splitL, if_pos h]
theorem splitL_cons {c b : UInt8} (h : b ≠ c) (l : List UInt8) : splitL c (b :: l) = glue [b] (splitL c l) := by
 conv => lhs; unfold splitL
 rw [if_neg h]
 cases splitL c l <;> rfl
theorem glue_glue (x y : List UInt8) (ps : List (List UInt8)) (h : ps ≠ []) : glue x (glue y ps) = glue (x ++ y) ps := by
 cases ps with
 | nil => exact absurd rfl h
 | cons p ps => simp [glue]
def scanL (c : UInt8) (l : List UInt8) : Nat → List (List UInt8) × Nat
 | 0 => ([], 0)
 | i + 1 => if at_ l i = c then ((scanL c l i).1 ++ [(l.take i).drop (scanL c l i).2], i + 1) else scanL c l i
theorem scanL_le (c : UInt8) (l : List UInt8) : ∀ i, (scanL c l i).2 ≤ i ∧ (scanL c l i).1.length ≤ i
 | 0 => ⟨Nat.le_refl _, Nat.le_refl _⟩
 | i + 1 => by
  have := scanL_le c l i
  unfold scanL
  split
  ·simp; omega
  ·omega
theorem scanL_eq (c : UInt8) (l : List UInt8) : ∀ i, i ≤ l.length → (scanL c l i).1 ++ glue ((l.take i).drop (scanL c l i).2) (splitL c (l.drop i)) = splitL c l
 | 0, _ => by
  simp only [scanL, List.drop_zero, List.take_zero, List.nil_append]
  cases h : splitL c l with
  | nil => exact absurd h (splitL_ne c l)
  | cons p ps => rfl
 | i + 1, hi => by
  have ih := scanL_eq c l i (by omega)
  have hlt : i < l.length := by omega
  have hle := (scanL_le c l i).1
  rw [List.drop_eq_getElem_cons hlt] at ih
  unfold scanL
  by_cases h : at_ l i = c
  ·rw [at_get hlt] at h
   rw [splitL_sep h] at ih
   rw [at_get hlt, if_pos h]
   simp only [List.append_assoc]
   rw [← ih]
   congr 1
   have e : (l.take (i + 1)).drop (i + 1) = [] := by
    apply List.drop_eq_nil_of_le
    simp only [List.length_take]; omega
   simp only [e, glue, List.append_nil, List.singleton_append]
   congr 1
   cases h2 : splitL c (l.drop (i + 1)) with
   | nil => exact absurd h2 (splitL_ne c _)
   | cons p ps => rfl
  ·rw [at_get hlt] at h
   rw [splitL_cons h, glue_glue _ _ _ (splitL_ne c _)] at ih
   rw [at_get hlt, if_neg h, ← ih]
   congr 2
   rw [List.take_succ_eq_append_getElem hlt, List.drop_append_of_le_length (by simp only [List.length_take]; omega)]
theorem scanL_all (c : UInt8) (l : List UInt8) : (scanL c l l.length).1 ++ [l.drop (scanL c l l.length).2] = splitL c l := by
 have := scanL_eq c l l.length (Nat.le_refl _)
 simpa [splitL, glue] using this
def splitB (w : ByteArray) : List ByteArray := (splitL 47 (bl w)).map ba
def partsB (w : ByteArray) : List ByteArray := (splitB w).filter fun p => !emptyB p
theorem splitB_len (w : ByteArray) : (splitB w).length ≤ w.size + 1 := by
 unfold splitB
 rw [List.length_map, splitL_len, size_bl]
 have := List.count_le_length (a := (47 : UInt8)) (l := bl w)
 omega
theorem partsB_len (w : ByteArray) : (partsB w).length ≤ w.size + 1 := Nat.le_trans (List.length_filter_le _ _) (splitB_len w)
theorem splitL_mem_len (c : UInt8) : ∀ l, ∀ p ∈ splitL c l, p.length ≤ l.length
 | [], p, h => by simp [splitL] at h; subst h; exact Nat.le_refl _
 | b :: l, p, h => by
  have ih := splitL_mem_len c l
  by_cases hb : b = c
  ·rw [splitL_sep hb] at h
   rcases List.mem_cons.1 h with rfl | h
   ·simp
   ·have := ih p h; rw [List.length_cons]; omega
  ·rw [splitL_cons hb] at h
   cases h2 : splitL c l with
   | nil => exact absurd h2 (splitL_ne c l)
   | cons q qs =>
    rw [h2] at h ih
    rcases List.mem_cons.1 h with rfl | h
    ·have := ih q (by simp)
     simp; omega
    ·have := ih p (by simp [h]); rw [List.length_cons]; omega
theorem partsB_size {w p : ByteArray} (h : p ∈ partsB w) : p.size ≤ w.size := by
 obtain ⟨q, hq, rfl⟩ := List.mem_map.1 (List.mem_filter.1 h).1
 rw [size_bl, size_bl, bl_ba]
 exact splitL_mem_len 47 _ _ hq
variable {R : Type} (N : Nat)
theorem byte_eq {b c : UInt8} : ((b.toNat : Int) == (c.toNat : Int)) = decide (b = c) := by
 by_cases h : b = c
 ·subst h; simp
 ·rw [decide_eq_false h]
  apply beq_false_of_ne
  intro h2
  exact h (UInt8.toNat_inj.1 (by omega))
theorem t_l1Split {w : ByteArray} (hw : w.size ≤ 1048576) (hN : 1048580 < N) (k : List V → Option R) : g_zcl N w 47 k = k (strsV (splitB w)) := by
 rw [g_zcl_eq]
 unfold gb_zcl
 refine loop_run (l := fun n i => l_zcl_0 N w 47 _ n (strsV ((scanL 47 (bl w) i).1.map ba)) ((scanL 47 (bl w) i).2 : Int) (i : Int)) (len := w.size) (k1 := k (strsV (splitB w))) ?_ ?_ (show w.size < N by omega)
 ·intro n i hi
  have hi' : i < (bl w).length := by rw [← size_bl]; exact hi
  have hle := scanL_le 47 (bl w) i
  simp only [l_zcl_0, l_zcl_0_step, lt_true hi, byteAt_nat w hi']
  rw [show (47 : Int) = ((47 : UInt8).toNat : Int) from rfl, byte_eq, wrap_succ (i := i) (by omega)]
  by_cases h : at_ (bl w) i = 47
  ·rw [decide_eq_true h]
   simp only [scanL, if_pos h]
   rw [if_pos ⟨by omega, by omega⟩, if_pos ⟨by omega, by omega⟩, if_pos (by rw [len_strs, List.length_map]; omega), ext_extract]
   simp only [Int.toNat_natCast, strsV, List.map_append, List.map_cons, List.map_nil]
  ·rw [decide_eq_false h]
   simp only [scanL, if_neg h]
 ·intro n
  have hle := scanL_le 47 (bl w) w.size
  simp only [l_zcl_0, l_zcl_0_step, Int.lt_irrefl, decide_false]
  rw [if_pos ⟨by omega, by omega⟩, if_pos (by rw [len_strs, List.length_map]; omega), ext_extract]
  have := scanL_all 47 (bl w)
  rw [← size_bl] at this
  unfold splitB
  rw [← this, List.take_of_length_le (by rw [size_bl]; exact Nat.le_refl _)]
  simp only [Int.toNat_natCast, strsV, List.map_append, List.map_cons, List.map_nil]
theorem filter_take {α : Type} [Inhabited α] (p : α → Bool) (l : List α) {i : Nat} (h : i < l.length) : (l.take (i + 1)).filter p = (l.take i).filter p ++ if p (at_ l i) then [at_ l i] else [] := by
 rw [List.take_succ_eq_append_getElem h, List.filter_append, at_get h]
 congr 1
 rw [List.filter_cons]
 split <;> rfl
theorem t_l2Parts {w : ByteArray} (hw : w.size ≤ 1048576) (hN : 1048580 < N) (k : List V → Option R) : g_zcn N w k = k (strsV (partsB w)) := by
 rw [g_zcn_eq]
 unfold gb_zcn
 rw [t_l1Split N hw hN, len_strs]
 have hl := splitB_len w
 refine loop_run (l := fun n i => l_zcn_0 N (strsV (splitB w)) ((splitB w).length : Int) _ n (strsV (((splitB w).take i).filter fun p => !emptyB p)) (i : Int)) (len := (splitB w).length) (k1 := k (strsV (partsB w))) ?_ ?_ (show (splitB w).length < N by omega)
 ·intro n i hi
  simp only [l_zcn_0, l_zcn_0_step, lt_true hi, Int.natCast_nonneg, if_true, Int.toNat_natCast, nth_strs hi, must_some, asStr_str]
  rw [wrap_succ (i := i) (by omega), filter_take _ _ hi]
  have hlf : (((splitB w).take i).filter fun p => !emptyB p).length ≤ i := Nat.le_trans (List.length_filter_le _ _) (by rw [List.length_take]; omega)
  cases h : emptyB (at_ (splitB w) i) with
  | true =>
   rw [show ((at_ (splitB w) i).toList == (ByteArray.mk #[]).toList) = true from h]
   simp
  | false =>
   rw [show ((at_ (splitB w) i).toList == (ByteArray.mk #[]).toList) = false from h, if_pos (by rw [len_strs]; omega)]
   simp [strsV]
 ·intro n
  simp only [l_zcn_0, l_zcn_0_step, Int.lt_irrefl, decide_false]
  rw [List.take_of_length_le (Nat.le_refl _)]
  rfl
def pathB (w : ByteArray) : Bool := (partsB w).all partB && inR (w.size : Int) 1 60
theorem dot_part {w : ByteArray} (h : dotB w = true) : partB w = true := by
 unfold dotB at h
 rw [beq_iff_eq, ByteArray.toList_eq, ByteArray.toList_eq] at h
 have : w = ba [46] := by rw [← ba_bl w, show bl w = _ from h]
 subst this
 decide
theorem dots_part {w : ByteArray} (h : dotsB w = true) : partB w = true := by
 unfold dotsB at h
 rw [beq_iff_eq, ByteArray.toList_eq, ByteArray.toList_eq] at h
 have : w = ba [46, 46] := by rw [← ba_bl w, show bl w = _ from h]
 subst this
 decide
theorem t_l2Path {w : ByteArray} (hw : w.size ≤ 1048576) (hN : 1048580 < N) (k : Bool → Option R) : g_zdk N w k = k (pathB w) := by
 rw [g_zdk_eq]
 unfold gb_zdk
 rw [t_l2Parts N hw hN, len_strs]
 have hl := partsB_len w
 refine (loop_all (l := fun n i => l_zdk_0 N w (strsV (partsB w)) ((partsB w).length : Int) (fun _ => k false) _ n (i : Int)) (len := (partsB w).length) (p := fun i => partB (at_ (partsB w) i)) (k0 := k false) (k1 := k (inR (w.size : Int) 1 60)) ?_ ?_ (show (partsB w).length < N by omega)).trans ?_
 ·intro n i hi _
  have hsz : (at_ (partsB w) i).size ≤ 1048576 := Nat.le_trans (partsB_size (at_mem hi)) hw
  simp only [l_zdk_0, l_zdk_0_step, lt_true hi, Int.natCast_nonneg, if_true, Int.toNat_natCast, nth_strs hi, must_some, asStr_str, t_zdj N hsz (by omega : 1048576 < N)]
  rw [wrap_succ (i := i) (by omega)]
  have h1 := @dot_part (at_ (partsB w) i)
  have h2 := @dots_part (at_ (partsB w) i)
  unfold nameB
  unfold dotB dotsB at *
  generalize ((at_ (partsB w) i).toList == (ByteArray.mk #[46]).toList) = b at *
  generalize ((at_ (partsB w) i).toList == (ByteArray.mk #[46, 46]).toList) = c at *
  generalize partB (at_ (partsB w) i) = a at *
  cases a <;> cases b <;> cases c <;> first | rfl | exact absurd (h1 rfl) (by decide) | exact absurd (h2 rfl) (by decide)
 ·intro _ n
  simp only [l_zdk_0, l_zdk_0_step, Int.lt_irrefl, decide_false, t_zdx]
 ·unfold pathB
  have e : (List.range' 0 (partsB w).length).all (fun i => partB (at_ (partsB w) i)) = (partsB w).all partB := by
   rw [Bool.eq_iff_iff, all_range, List.all_eq_true]
   exact ⟨fun h p hp => by
    obtain ⟨i, hi, rfl⟩ := List.getElem_of_mem hp
    rw [← at_get hi]
    exact h i hi, fun h i hi => h _ (at_mem hi)⟩
  rw [e]
  cases (partsB w).all partB <;> rfl
theorem path_size {w : ByteArray} (h : pathB w = true) : 1 ≤ w.size ∧ w.size ≤ 60 := by
 unfold pathB at h
 rw [Bool.and_eq_true, inR_iff] at h
 omega
def wholeB (w : ByteArray) : Bool := pathB w && (((at_ (bl w) 0).toNat : Int) == 47)
theorem t_l2Whole {w : ByteArray} (hw : w.size ≤ 1048576) (hN : 1048580 < N) (k : Bool → Option R) : g_zco N w k = k (wholeB w) := by
 rw [g_zco_eq]
 unfold gb_zco wholeB
 rw [t_l2Path N hw hN]
 cases h : pathB w with
 | false => rfl
 | true =>
  have := path_size h
  simp only
  rw [show (0 : Int) = ((0 : Nat) : Int) from rfl, byteAt_nat w (by rw [← size_bl]; omega)]
  rfl
end Go.VM.VL
set_option linter.unusedSimpArgs false
set_option linter.unusedVariables false
namespace Go.VM.VL
open Go
theorem split_index (c : UInt8) : ∀ (l : List UInt8) (m : Nat), Lib.indexByte l c = (m : Int) → m < l.length ∧ splitL c l = l.take m :: splitL c (l.drop (m + 1))
 | [], m, h => by simp [Lib.indexByte] at h
 | b :: l, m, h => by
  unfold Lib.indexByte at h
  by_cases hb : b = c
  ·rw [if_pos (by simp [hb])] at h
   obtain rfl : m = 0 := by omega
   exact ⟨by simp, by rw [splitL_sep hb]; rfl⟩
  ·rw [if_neg (by simp [hb])] at h
   have hge := Lib.indexByte_ge l c
   by_cases h1 : Lib.indexByte l c = -1
   ·rw [if_pos (by simp [h1])] at h; omega
   ·rw [if_neg (by simp [h1])] at h
    obtain ⟨m, rfl⟩ : ∃ k, m = k + 1 := ⟨m - 1, by omega⟩
    obtain ⟨h2, h3⟩ := split_index c l m (by omega)
    refine ⟨by rw [List.length_cons]; omega, ?_⟩
    rw [splitL_cons hb, h3]
    rfl
theorem split_none (c : UInt8) : ∀ (l : List UInt8), Lib.indexByte l c = -1 → splitL c l = [l]
 | [], h => rfl
 | b :: l, h => by
  unfold Lib.indexByte at h
  by_cases hb : b = c
  ·rw [if_pos (by simp [hb])] at h; omega
  ·rw [if_neg (by simp [hb])] at h
   have hge := Lib.indexByte_ge l c
   by_cases h1 : Lib.indexByte l c = -1
   ·rw [splitL_cons hb, split_none c l h1]; rfl
   ·rw [if_neg (by simp [h1])] at h; omega
def restL (l : List UInt8) : Nat → List UInt8
 | 0 => l
 | i + 1 => (restL l i).drop ((Lib.indexByte (restL l i) 47).toNat + 1)
theorem restL_at (l : List UInt8) : ∀ i, i ≤ l.count 47 → splitL 47 (restL l i) = (splitL 47 l).drop i ∧ (i < l.count 47 → ∃ m : Nat, Lib.indexByte (restL l i) 47 = m)
  ∧ (restL l i).length ≤ l.length := by
 have idx : ∀ (r : List UInt8), 2 ≤ (splitL 47 r).length → ∃ m : Nat, Lib.indexByte r 47 = m := fun r h => by
  have := Lib.indexByte_ge r 47
  by_cases h1 : Lib.indexByte r 47 = -1
  ·rw [split_none 47 r h1] at h; simp at h
  ·exact ⟨(Lib.indexByte r 47).toNat, by omega⟩
 intro i
 induction i with
 | zero => exact fun _ => ⟨rfl, fun h => idx l (by rw [splitL_len]; omega), Nat.le_refl _⟩
 | succ i ih =>
  intro hi
  obtain ⟨h1, h2, h3⟩ := ih (by omega)
  obtain ⟨m, hm⟩ := h2 (by omega)
  obtain ⟨h4, h5⟩ := split_index 47 _ m hm
  have e : splitL 47 (restL l (i + 1)) = (splitL 47 l).drop (i + 1) := by
   have : (splitL 47 (restL l i)).drop 1 = splitL 47 (restL l (i + 1)) := by
    rw [h5]
    show _ = splitL 47 ((restL l i).drop ((Lib.indexByte (restL l i) 47).toNat + 1))
    rw [hm]; rfl
   rw [← this, h1, List.drop_drop]
  refine ⟨e, fun h => idx _ (by rw [e, List.length_drop, splitL_len]; omega), ?_⟩
  show ((restL l i).drop _).length ≤ _
  rw [List.length_drop]; omega
variable {R : Type} (N : Nat)
def sl : ByteArray := ByteArray.mk #[47]
theorem t_Index (w : ByteArray) (k : Int → Option R) : g_zbz N w (ByteArray.mk #[47]) k = k (Lib.indexByte (bl w) 47) := by
 rw [g_zbz_eq]
 unfold gb_zbz
 rw [g_zan_eq]
 unfold gb_zan
 show (match ((ByteArray.mk #[47]).toList == w.toList) with | true => k 0 | false => _) = _
 cases h : ((ByteArray.mk #[47]).toList == w.toList) with
 | true =>
  rw [beq_iff_eq, ByteArray.toList_eq, ByteArray.toList_eq] at h
  show k 0 = k (Lib.indexByte w.data.toList 47)
  rw [← h]; rfl
 | false =>
  show g_zak N w _ _ = _
  rw [g_zak_eq]
  unfold gb_zak
  rw [g_zai_eq]
  rfl
theorem t_Count (w : ByteArray) (k : Int → Option R) : g_zby N w (ByteArray.mk #[47]) k = k (((bl w).count 47 : Nat) : Int) := by
 rw [g_zby_eq]
 unfold gb_zby
 show g_zal N w _ _ = _
 rw [g_zal_eq]
 rfl
theorem noRef_strs (l : List ByteArray) : cellsNoRef (strsV l) = true := by
 unfold cellsNoRef
 rw [List.all_eq_true]
 intro v hv
 obtain ⟨s, _, rfl⟩ := List.mem_map.1 hv
 rfl
theorem piece_at (w : ByteArray) {i : Nat} (hi : i < (splitB w).length) : (splitL 47 (bl w)).drop i = bl (at_ (splitB w) i) :: (splitL 47 (bl w)).drop (i + 1) := by
 have hi' : i < (splitL 47 (bl w)).length := by unfold splitB at hi; rwa [List.length_map] at hi
 rw [List.drop_eq_getElem_cons hi', at_get hi]
 simp only [splitB, List.getElem_map, bl_ba]
theorem t_Split {w : ByteArray} (hw : w.size ≤ 1048576) (hN : 1048580 < N) (k0 : List V → Option R) (k1 : Nat → List V → Option R) :
  g_zca N w (ByteArray.mk #[47]) k0 k1 = k1 (splitB w).length (strsV (splitB w)) := by
 rw [g_zca_eq]
 unfold gb_zca
 rw [g_zay_eq]
 unfold gb_zay
 let c := (bl w).count 47
 have hc : c ≤ w.size := by rw [size_bl]; exact List.count_le_length
 have hL : (splitB w).length = c + 1 := by unfold splitB; rw [List.length_map, splitL_len]
 rw [show ((ByteArray.mk #[47]).toList == (ByteArray.mk #[]).toList) = false by rw [ByteArray.toList_eq, ByteArray.toList_eq]; rfl]
 show g_zby N w (ByteArray.mk #[47]) _ = _
 rw [t_Count]
 show _ = k1 (splitB w).length (strsV (splitB w))
 rw [wrap_i64 (x := (w.size : Int) + 1) (by omega) (by omega), wrap_i64 (x := (((bl w).count 47 : Nat) : Int) + 1) (by omega) (by omega)]
 have hif : (if (w.size : Int) + 1 < (((bl w).count 47 : Nat) : Int) + 1 then (w.size : Int) + 1 else (((bl w).count 47 : Nat) : Int) + 1) = ((c + 1 : Nat) : Int) := by
  rw [if_neg (by omega)]; rfl
 rw [hif, if_pos ⟨by omega, rfl, by omega⟩, Int.toNat_natCast, wrap_i64 (x := ((c + 1 : Nat) : Int) - 1) (by omega) (by omega)]
 have hlim : ((c + 1 : Nat) : Int) - 1 = (c : Int) := by omega
 rw [hlim]
 let z : V := .str (ByteArray.mk #[])
 have hlen : (strsV (splitB w)).length = c + 1 := by rw [len_strs, hL]
 rw [show List.replicate (c + 1) (V.str (ByteArray.mk #[])) = sofar (strsV (splitB w)) z 0 by rw [sofar_zero, hlen]]
 refine loop_run (l := fun n i => l_zay_0 N (ByteArray.mk #[47]) 0 (c : Int) (c + 1) _ n (ba (restL (bl w) i)) (i : Int) (sofar (strsV (splitB w)) z i)) (len := c) (k1 := k1 (splitB w).length (strsV (splitB w))) ?_ ?_ (show c < N by omega)
 ·intro n i hi
  obtain ⟨h1, h2, h3⟩ := restL_at (bl w) i (by omega)
  obtain ⟨m, hm⟩ := h2 hi
  obtain ⟨h4, h5⟩ := split_index 47 _ m hm
  have hi' : i < (splitB w).length := by omega
  rw [h1, piece_at w hi'] at h5
  have hp : bl (at_ (splitB w) i) = (restL (bl w) i).take m := (List.cons.inj h5).1
  have hsz : (ba (restL (bl w) i)).size = (restL (bl w) i).length := size_bl _
  rw [← size_bl] at h3
  simp only [l_zay_0, l_zay_0_step, lt_true hi, t_Index, bl_ba, hm]
  rw [decide_eq_false (by omega)]
  simp only
  rw [show (m : Int) + 0 = m by omega, wrap_i64 (x := (m : Int)) (by omega) (by omega), if_pos ⟨by omega, by omega⟩, if_pos ⟨by omega, by omega⟩]
  rw [show ((ByteArray.mk #[47]).size : Int) = 1 from rfl, wrap_succ (i := m) (by omega), wrap_succ (i := i) (by omega)]
  simp only [Int.toNat_natCast, Nat.zero_add, sofar_nth (strsV (splitB w)) z (by rw [hlen]; omega : i < _)]
  have hput : ∀ b, putCells z 0 [.str b] = some (.str b) := fun b => rfl
  simp only [hput]
  rw [if_pos ⟨by omega, by omega⟩, ext_extract, ext_extract, bl_ba, List.drop_zero, ← hp, ba_bl, sofar_put _ _ _ (by rw [hlen]; omega) (nth_strs hi'),
   List.take_of_length_le (by rw [hsz]; exact Nat.le_refl _)]
  have hr : restL (bl w) (i + 1) = (restL (bl w) i).drop (m + 1) := by
   show (restL (bl w) i).drop ((Lib.indexByte (restL (bl w) i) 47).toNat + 1) = _
   rw [hm]; rfl
  rw [hr]
 ·intro n
  obtain ⟨h1, h2, h3⟩ := restL_at (bl w) c (Nat.le_refl _)
  simp only [l_zay_0, l_zay_0_step, Int.lt_irrefl, decide_false]
  rw [if_pos ⟨by omega, by omega⟩]
  simp only [Int.toNat_natCast, Nat.zero_add, sofar_nth (strsV (splitB w)) z (by rw [hlen]; omega : c < _)]
  have hput : ∀ b, putCells z 0 [.str b] = some (.str b) := fun b => rfl
  simp only [hput]
  have hlast : nth (strsV (splitB w)) c = some (.str (ba (restL (bl w) c))) := by
   rw [nth_strs (by omega)]
   rw [piece_at w (by omega), List.drop_eq_nil_of_le (by rw [splitL_len]; exact Nat.le_refl _)] at h1
   have h6 : splitL 47 (restL (bl w) c) = [restL (bl w) c] := by
    apply split_none
    have := Lib.indexByte_ge (restL (bl w) c) 47
    by_cases h7 : Lib.indexByte (restL (bl w) c) 47 = -1
    ·exact h7
    ·obtain ⟨m, hm⟩ : ∃ m : Nat, Lib.indexByte (restL (bl w) c) 47 = m := ⟨(Lib.indexByte (restL (bl w) c) 47).toNat, by omega⟩
     obtain ⟨_, h8⟩ := split_index 47 _ m hm
     rw [h1] at h8
     exact absurd (List.cons.inj h8).2.symm (splitL_ne 47 _)
   rw [h6] at h1
   rw [(List.cons.inj h1).1, ba_bl]
  rw [sofar_put _ _ _ (by rw [hlen]; omega) hlast, show sofar (strsV (splitB w)) z (c + 1) = strsV (splitB w) by rw [← hlen]; exact sofar_all _ _,
   wrap_succ (i := c) (by omega), if_pos ⟨by omega, by omega⟩, noRef_strs, hL]
  rfl
def fillL (L : List ByteArray) : List ByteArray := L.filter fun p => !emptyB p
def delS (L : List ByteArray) (j : Nat) : List ByteArray := fillL (L.take j) ++ L.drop (fillL (L.take j)).length
theorem fill_len (L : List ByteArray) (j : Nat) : (fillL (L.take j)).length ≤ j := Nat.le_trans (List.length_filter_le _ _) (by rw [List.length_take]; omega)
theorem delS_len {L : List ByteArray} {j : Nat} (h : j ≤ L.length) : (delS L j).length = L.length := by
 have := fill_len L j
 unfold delS
 rw [List.length_append, List.length_drop]; omega
theorem delS_at {L : List ByteArray} {j : Nat} (h : j < L.length) : nth (strsV (delS L j)) j = some (.str (at_ L j)) := by
 have := fill_len L j
 rw [nth_strs (by rw [delS_len (by omega)]; exact h), at_get (by rw [delS_len (by omega)]; exact h), at_get h]
 congr 2
 unfold delS
 rw [List.getElem_append_right (by omega), List.getElem_drop]
 congr 1
 omega
theorem delS_put {L : List ByteArray} {j : Nat} (h : j < L.length) (hp : emptyB (at_ L j) = false) : setAt (strsV (delS L j)) (fillL (L.take j)).length (.str (at_ L j)) = strsV (delS L (j + 1)) := by
 have h2 := fill_len L j
 have e : fillL (L.take (j + 1)) = fillL (L.take j) ++ [at_ L j] := by
  unfold fillL
  rw [filter_take _ _ h, hp]; rfl
 unfold strsV
 rw [setAt_map V.str, setAt_eq]
 congr 1
 unfold delS
 rw [e, List.set_append_right _ _ (Nat.le_refl _), Nat.sub_self, List.length_append, List.append_assoc]
 congr 1
 have hd : (fillL (L.take j)).length < L.length := by omega
 rw [List.drop_eq_getElem_cons hd]
 rfl
theorem delS_skip {L : List ByteArray} {j : Nat} (h : j < L.length) (hp : emptyB (at_ L j) = true) : delS L (j + 1) = delS L j ∧ (fillL (L.take (j + 1))).length = (fillL (L.take j)).length := by
 have e : fillL (L.take (j + 1)) = fillL (L.take j) := by
  unfold fillL
  rw [filter_take _ _ h, hp]
  exact List.append_nil _
 exact ⟨by unfold delS; rw [e], by rw [e]⟩
theorem freeze_strs (v : Bool) (s : S) (L : List ByteArray) : mapSome (freeze v s 11) (strsV L) = some (strsV L) :=
 mapSome_self fun u hu => by obtain ⟨b, _, rfl⟩ := List.mem_map.1 hu; rfl
theorem plain_strs (L : List ByteArray) : (strsV L).all V.plain = true := by
 rw [List.all_eq_true]; intro u hu; obtain ⟨b, _, rfl⟩ := List.mem_map.1 hu; rfl
theorem lent_strs (L : List ByteArray) : (strsV L).map V.lent = strsV L := by
 unfold strsV; rw [List.map_map]; rfl
theorem t_IndexEmpty {L : List ByteArray} (hl : L.length ≤ 1048577) (hN : 1048580 < N) (f : Fl) (k : Int → Option R) :
  g_zac N (strsV L) f k = k (firstIx (fun i => emptyB (at_ L i)) L.length) := by
 rw [g_zac_eq]
 unfold gb_zac
 rw [len_strs]
 refine (loop_first (β := Nat) (l := fun n i => l_zac_0 N (strsV L) f (L.length : Int) _ _ n (i : Int)) (len := L.length) (q := fun i => if emptyB (at_ L i) then some i else none) (kb := fun i => k (i : Int)) (k1 := k (-1)) ?_ ?_ (show L.length < N by omega)).trans ?_
 ·intro n i hi _
  simp only [l_zac_0, l_zac_0_step, lt_true hi, Int.natCast_nonneg, if_true, Int.toNat_natCast, nth_strs hi, must_some, asStr_str]
  rw [g_zbc_eq]
  unfold gb_zbc
  rw [wrap_succ (i := i) (by omega), show ((at_ L i).toList == (ByteArray.mk #[]).toList) = emptyB (at_ L i) from rfl]
  cases emptyB (at_ L i) <;> rfl
 ·intro _ n
  simp only [l_zac_0, l_zac_0_step, Int.lt_irrefl, decide_false]
 ·unfold firstIx
  generalize (List.range' 0 L.length).findSome? _ = o
  cases o <;> rfl
theorem first_some {q : Nat → Bool} {len i : Nat} (h : (List.range' 0 len).findSome? (fun i => if q i then some i else none) = some i) : i < len ∧ q i = true ∧ ∀ j, j < i → q j = false := by
 have : ∀ (d a : Nat), (List.range' a d).findSome? (fun i => if q i then some i else none) = some i → i < a + d ∧ a ≤ i ∧ q i = true ∧ ∀ j, a ≤ j → j < i → q j = false := by
  intro d
  induction d with
  | zero => intro a h; cases h
  | succ d ih =>
   intro a h
   rw [List.range'_succ, List.findSome?_cons] at h
   cases hq : q a with
   | true =>
    rw [hq] at h
    obtain rfl : a = i := by simpa using h
    exact ⟨by omega, Nat.le_refl _, hq, fun j h1 h2 => by omega⟩
   | false =>
    rw [hq] at h
    obtain ⟨h1, h2, h3, h4⟩ := ih (a + 1) h
    refine ⟨by omega, by omega, h3, fun j h5 h6 => ?_⟩
    rcases Nat.lt_or_ge a j with h7 | h7
    ·exact h4 j h7 h6
    ·obtain rfl : a = j := by omega
     exact hq
 obtain ⟨h1, _, h2, h3⟩ := this len 0 h
 exact ⟨by omega, h2, fun j hj => h3 j (Nat.zero_le _) hj⟩
theorem t_DeleteEmpty {L : List ByteArray} (hl : L.length ≤ 1048577) (hN : 1048580 < N) (k : Nat → List V → Option R) :
  ∃ es : List V, g_zab N L.length (strsV L) k = k (fillL L).length (strsV (fillL L) ++ es) ∧ cellsNoRef (strsV (fillL L) ++ es) = true := by
 rw [g_zab_eq]
 unfold gb_zab
 simp only [List.drop_zero]
 rw [List.take_of_length_le (by rw [len_strs]; exact Nat.le_refl _)]
 simp only [freeze_strs]
 rw [lent_strs, t_IndexEmpty N hl hN, len_strs, Nat.zero_add]
 simp only [Nat.le_refl, decide_true, guardB]
 unfold firstIx
 cases h : (List.range' 0 L.length).findSome? (fun i => if emptyB (at_ L i) = true then some i else none) with
 | none =>
  have h2 := first_none.1 h
  have e : fillL L = L := by
   unfold fillL
   rw [List.filter_eq_self]
   intro p hp
   obtain ⟨i, hi, rfl⟩ := List.getElem_of_mem hp
   have := h2 i hi
   rw [at_get hi] at this
   cases he : emptyB L[i] with
   | true => rw [he] at this; simp at this
   | false => rfl
  refine ⟨[], ?_, ?_⟩
  ·rw [e, List.append_nil, noRef_strs]; rfl
  ·rw [List.append_nil, noRef_strs]
 | some i =>
  obtain ⟨hi, hq, hlt⟩ := first_some h
  have hne : ((i : Int) == -1) = false := beq_false_of_ne (by omega)
  rw [hne]
  have e0 : fillL (L.take (i + 1)) = L.take i := by
   have e1 : fillL (L.take i) = L.take i := by
    unfold fillL
    rw [List.filter_eq_self]
    intro p hp
    obtain ⟨j, hj, rfl⟩ := List.getElem_of_mem hp
    rw [List.length_take] at hj
    have := hlt j (by omega)
    rw [at_get (by omega)] at this
    simp [this]
   rw [← e1]
   unfold fillL
   rw [filter_take _ _ hi, hq]
   exact List.append_nil _
  have hl0 : (fillL (L.take (i + 1))).length = i := by rw [e0, List.length_take]; omega
  have hs0 : delS L (i + 1) = L := by unfold delS; rw [hl0, e0, List.take_append_drop]
  refine ⟨?es, ?_, ?_⟩
  case es => exact List.replicate (L.length - (fillL L).length) (.str (ByteArray.mk #[]))
  ·have hfl : (fillL L).length ≤ L.length := List.length_filter_le _ _
   have hfin : delS L L.length = fillL L ++ L.drop (fillL L).length := by unfold delS; rw [List.take_of_length_le (Nat.le_refl _)]
   have hfill : fillZ (strsV (fillL L ++ L.drop (fillL L).length)) (fillL L).length (L.length - (fillL L).length) (.str (ByteArray.mk #[])) = strsV (fillL L) ++ List.replicate (L.length - (fillL L).length) (.str (ByteArray.mk #[])) := by
    unfold fillZ strsV
    rw [List.map_append, List.take_append_of_le_length (by rw [List.length_map]; exact Nat.le_refl _), List.take_of_length_le (by rw [List.length_map]; exact Nat.le_refl _),
     List.drop_eq_nil_of_le (by simp only [List.length_append, List.length_map, List.length_drop]; omega), List.append_nil]
   have hnr : cellsNoRef (strsV (fillL L) ++ List.replicate (L.length - (fillL L).length) (.str (ByteArray.mk #[]))) = true := by
    unfold cellsNoRef
    rw [List.all_append]
    have h1 := noRef_strs (fillL L)
    unfold cellsNoRef at h1
    rw [h1, Bool.true_and, List.all_eq_true]
    intro v hv
    rw [List.eq_of_mem_replicate hv]; rfl
   have hput : ∀ b : ByteArray, ∀ u : ByteArray, putCells (.str u) 0 [.str b] = some (.str b) := fun b u => rfl
   show l_zab_0 N L.length _ N (i : Int) (IntKind.i64.wrap ((i : Int) + 1)) (strsV L) = _
   rw [wrap_succ (i := i) (by omega)]
   have hrun := loop_run' (R := R) (len := L.length) (k1 := k (fillL L).length (strsV (fillL L) ++ List.replicate (L.length - (fillL L).length) (.str (ByteArray.mk #[]))))
    (l := fun n j => l_zab_0 N L.length (fun x17 e18 => (if (0 : Int) ≤ x17 ∧ x17 ≤ (L.length : Int) then guardB (decide ((0 + (x17 : Int).toNat) + (L.length - (x17 : Int).toNat) ≤ e18.length)) ((if (0 : Int) ≤ x17 ∧ x17 ≤ (L.length : Int) then guardB (cellsNoRef (fillZ e18 (0 + (x17 : Int).toNat) (L.length - (x17 : Int).toNat) (.str (ByteArray.mk #[]))) && true) (k ((x17 : Int).toNat) (fillZ e18 (0 + (x17 : Int).toNat) (L.length - (x17 : Int).toNat) (.str (ByteArray.mk #[])))) else none)) else none)) n ((fillL (L.take j)).length : Int) (j : Int) (strsV (delS L j)))
    (fun n j hj => by
     have hf := fill_len L j
     simp only [l_zab_0, l_zab_0_step, lt_true hj]
     rw [if_pos ⟨by omega, by omega⟩]
     simp only [Int.toNat_natCast, Nat.zero_add, delS_at hj]
     show g_zbc N (at_ L j) _ = _
     rw [g_zbc_eq]
     unfold gb_zbc
     rw [show ((at_ L j).toList == (ByteArray.mk #[]).toList) = emptyB (at_ L j) from rfl]
     cases he : emptyB (at_ L j) with
     | true =>
      obtain ⟨h1, h2⟩ := delS_skip hj he
      simp only [Bool.not_true]
      rw [wrap_succ (i := j) (by omega), h1, h2]
     | false =>
      have e : (fillL (L.take (j + 1))).length = (fillL (L.take j)).length + 1 := by
       unfold fillL
       rw [filter_take _ _ hj, he, List.length_append]; rfl
      simp only [Bool.not_false]
      rw [if_pos ⟨by omega, by omega⟩, nth_strs (by rw [delS_len (by omega)]; omega)]
      simp only [hput]
      rw [delS_put hj he, wrap_succ (by omega), wrap_succ (by omega), e])
    (fun n => by
     simp only [l_zab_0, l_zab_0_step, Int.lt_irrefl, decide_false]
     rw [List.take_of_length_le (Nat.le_refl _), hfin]
     rw [if_pos ⟨by omega, by omega⟩, if_pos ⟨by omega, by omega⟩]
     simp only [Int.toNat_natCast, Nat.zero_add, hfill, hnr]
     rw [decide_eq_true (by rw [len_strs, List.length_append, List.length_drop]; omega)]
     rfl) (L.length - (i + 1)) N (i + 1) (by omega) (by omega)
   rw [hl0, hs0] at hrun
   exact hrun
  ·unfold cellsNoRef
   rw [List.all_append]
   have h1 := noRef_strs (fillL L)
   unfold cellsNoRef at h1
   rw [h1, Bool.true_and, List.all_eq_true]
   intro v hv
   rw [List.eq_of_mem_replicate hv]; rfl
theorem t_partsOf {w : ByteArray} (hw : w.size ≤ 1048576) (hN : 1048580 < N) (k : List V → Option R) : g_zce N w k = k (strsV (partsB w)) := by
 rw [g_zce_eq]
 unfold gb_zce
 rw [t_Split N hw hN, noRef_strs]
 simp only [Bool.true_and, Bool.and_true, guardB]
 have hl := splitB_len w
 obtain ⟨es, he, hr⟩ := t_DeleteEmpty N (L := splitB w) (by omega) hN (fun k4 e5 => (match mapSome (freeze false [some ⟨e5, 1, 9, 0⟩] 11) ((e5.drop 0).take k4) with
   | some e6 => guardB (decide (0 + k4 ≤ e5.length)) (guardB (e6.all V.plain) (k e6))
   | none => none))
 refine he.trans ?_
 have e1 : ((strsV (fillL (splitB w)) ++ es).drop 0).take (fillL (splitB w)).length = strsV (fillL (splitB w)) := by
  rw [List.drop_zero, List.take_append_of_le_length (by rw [len_strs]; exact Nat.le_refl _), List.take_of_length_le (by rw [len_strs]; exact Nat.le_refl _)]
 simp only [e1, freeze_strs, plain_strs, guardB]
 rw [decide_eq_true (by rw [List.length_append, len_strs]; omega)]
 rfl
theorem t_ContainsLong {L : List ByteArray} (hl : L.length ≤ 1048577) (hz : ∀ p ∈ L, p.size ≤ 1048576) (hN : 1048580 < N) (f : Fl) (k : Bool → Option R) :
  g_zaa N (strsV L) f k = k (!L.all partB) := by
 rw [g_zaa_eq]
 unfold gb_zaa
 rw [g_zad_eq]
 unfold gb_zad
 rw [len_strs]
 refine (loop_first (β := Nat) (l := fun n i => l_zad_0 N (strsV L) _ (L.length : Int) _ _ n (i : Int)) (len := L.length) (q := fun i => if !partB (at_ L i) then some i else none) (kb := fun i => k (decide ((i : Int) ≥ 0))) (k1 := k (decide ((-1 : Int) ≥ 0))) ?_ ?_ (show L.length < N by omega)).trans ?_
 ·intro n i hi _
  simp only [l_zad_0, l_zad_0_step, lt_true hi, Int.natCast_nonneg, if_true, Int.toNat_natCast, nth_strs hi, must_some, asStr_str]
  rw [g_zbg_eq]
  unfold gb_zbg
  rw [t_isPart N (hz _ (at_mem hi)) (by omega), wrap_succ (i := i) (by omega)]
  cases partB (at_ L i) <;> rfl
 ·intro _ n
  simp only [l_zad_0, l_zad_0_step, Int.lt_irrefl, decide_false]
 ·have := firstIx_none (q := fun i => !partB (at_ L i)) (len := L.length)
  unfold firstIx at this
  simp only [Bool.not_not] at this
  have e : (List.range' 0 L.length).all (fun i => partB (at_ L i)) = L.all partB := by
   rw [Bool.eq_iff_iff, all_range, List.all_eq_true]
   exact ⟨fun h p hp => by
    obtain ⟨i, hi, rfl⟩ := List.getElem_of_mem hp
    rw [← at_get hi]
    exact h i hi, fun h i hi => h _ (at_mem hi)⟩
  rw [← e, ← this]
  generalize (List.range' 0 L.length).findSome? _ = o
  cases o <;> rfl
theorem t_GoodPath {w : ByteArray} (hw : w.size ≤ 1048576) (hN : 1048580 < N) (k : Bool → Option R) : g_zbs N w k = k (pathB w) := by
 rw [g_zbs_eq]
 unfold gb_zbs
 rw [g_zcw_eq]
 unfold gb_zcw pathB
 rw [show (w.toList == (ByteArray.mk #[]).toList) = emptyB w from rfl, emptyB_iff, t_partsOf N hw hN]
 have hl := partsB_len w
 rw [t_ContainsLong N (by omega) (fun p hp => Nat.le_trans (partsB_size hp) hw) hN]
 unfold inR
 by_cases h1 : w.size = 0
 ·rw [decide_eq_true h1, decide_eq_false (p := 1 ≤ (w.size : Int)) (by omega), Bool.false_and, Bool.and_false]
  cases decide ((w.size : Int) ≤ 60) <;> rfl
 ·rw [decide_eq_false h1, decide_eq_true (p := 1 ≤ (w.size : Int)) (by omega), Bool.true_and]
  cases decide ((w.size : Int) ≤ 60) <;> cases (partsB w).all partB <;> rfl
theorem t_isWhole {w : ByteArray} (hw : w.size ≤ 1048576) (hN : 1048580 < N) (k : Bool → Option R) : g_zcd N w k = k (wholeB w) := by
 rw [g_zcd_eq]
 unfold gb_zcd wholeB
 rw [t_GoodPath N hw hN]
 cases h : pathB w with
 | false => rfl
 | true =>
  have := path_size h
  simp only
  rw [show (0 : Int) = ((0 : Nat) : Int) from rfl, byteAt_nat w (by rw [← size_bl]; omega)]
  rfl
end Go.VM.VL
set_option linter.unusedSimpArgs false
set_option linter.unusedVariables false
namespace Go.VM.VL
open Go
variable {R : Type} (N : Nat)
def cleanS (root : Bool) (xs : List ByteArray) (p : ByteArray) : List ByteArray :=
 if dotB p then xs else if dotsB p then (if decide (0 < xs.length) && !dotsB (at_ xs (xs.length - 1)) then xs.take (xs.length - 1) else if root then xs else xs ++ [p]) else xs ++ [p]
def cleanL (root : Bool) (ps : List ByteArray) : List ByteArray := ps.foldl (cleanS root) []
theorem cleanS_len (root : Bool) (xs : List ByteArray) (p : ByteArray) : (cleanS root xs p).length ≤ xs.length + 1 := by
 unfold cleanS
 split
 ·omega
 ·split
  ·split
   ·rw [List.length_take]; omega
   ·split <;> simp
  ·simp
theorem getOb1 (es : List V) (ver : Nat) : getOb [some ⟨[], 1, 9, 0⟩, some ⟨es, 1, 9, ver⟩] 1 ver = some ⟨es, 1, 9, ver⟩ := by simp [getOb, nth]
theorem strs_app (xs : List ByteArray) (p : ByteArray) : strsV xs ++ [V.str p] = strsV (xs ++ [p]) := by simp [strsV]
theorem strs_take (xs : List ByteArray) (n : Nat) : strsV (xs.take n) = (strsV xs).take n := by simp [strsV, List.map_take]
theorem beq_self (n : Nat) : Nat.beq n n = true := Nat.beq_refl n
theorem clean_round {w : ByteArray} (h0 : 0 < (bl w).length) {ps : List ByteArray} (hps : ps.length ≤ 1048577) {i : Nat} (hi : i < ps.length) {xs : List ByteArray} {es : List V} {ver : Nat} (hx : es.take xs.length = strsV xs) (hl : xs.length ≤ es.length) (hxi : xs.length ≤ i)
  (nx : Nat → Nat → Int → Ob → Option R) (k0 : Nat → Nat → Ob → Option R) :
  ∃ es' ver', es'.take (cleanS ((((at_ (bl w) 0).toNat : Nat) : Int) == 47) xs (at_ ps i)).length = strsV (cleanS ((((at_ (bl w) 0).toNat : Nat) : Int) == 47) xs (at_ ps i)) ∧ (cleanS ((((at_ (bl w) 0).toNat : Nat) : Int) == 47) xs (at_ ps i)).length ≤ es'.length ∧
   l_zcm_0_step N w (strsV ps) (ps.length : Int) nx ver xs.length (i : Int) ⟨es, 1, 9, ver⟩ k0 = nx ver' (cleanS ((((at_ (bl w) 0).toNat : Nat) : Int) == 47) xs (at_ ps i)).length ((i + 1 : Nat) : Int) ⟨es', 1, 9, ver'⟩ := by
 unfold l_zcm_0_step
 simp only [lt_true hi, Int.natCast_nonneg, if_true, Int.toNat_natCast, nth_strs hi, must_some, asStr_str, wrap_succ (i := i) (by omega)]
 have hb := byteAt_nat (R := R) w (i := 0) h0
 simp only [Int.ofNat_zero, Int.natCast_zero] at hb
 have app : ∃ es', es' = es.take xs.length ++ [V.str (at_ ps i)] ∧ es'.take (xs ++ [at_ ps i]).length = strsV (xs ++ [at_ ps i]) ∧ (xs ++ [at_ ps i]).length ≤ es'.length := by
  refine ⟨_, rfl, ?_, ?_⟩
  ·rw [hx, strs_app, List.take_of_length_le]
   rw [len_strs]; exact Nat.le_refl _
  ·rw [hx, strs_app, len_strs]; exact Nat.le_refl _
 have happ : (match getOb [some ⟨[], 1, 9, 0⟩, some ⟨es, 1, 9, ver⟩] 1 ver with
   | some ob48 => (if xs.length ≤ ob48.es.length then (match getOb [some ⟨[], 1, 9, 0⟩, some { ob48 with es := (ob48.es.take xs.length) }] 1 ver with
    | some ob49 => guardB (Nat.beq ob49.elem 9) ((if True ∧ xs.length = ob49.es.length ∧ (xs.length + 1) * 16 ≤ 140737488355328 ∧ 0 < 1 then nx (ver + 1) (xs.length + 1) ((i + 1 : Nat) : Int) ({ ob49 with es := (ob49.es ++ ([.str (at_ ps i)] : List V)), ver := (ver + 1) }) else none))
    | none => none) else none)
   | none => none) = nx (ver + 1) (xs ++ [at_ ps i]).length ((i + 1 : Nat) : Int) ⟨es.take xs.length ++ [V.str (at_ ps i)], 1, 9, ver + 1⟩ := by
  simp only [getOb1, if_pos hl, beq_self, guardB, List.length_take, Nat.min_eq_left hl]
  rw [if_pos ⟨trivial, trivial, by omega, by omega⟩]
  simp
 obtain ⟨es1, he1, ha1, ha2⟩ := app
 unfold cleanS
 cases hd : dotB (at_ ps i) with
 | true =>
  unfold dotB at hd
  rw [hd]
  exact ⟨es, ver, hx, hl, rfl⟩
 | false =>
  unfold dotB at hd
  rw [hd]
  simp only [Bool.false_eq_true, if_false]
  cases hdd : dotsB (at_ ps i) with
  | false =>
   unfold dotsB at hdd
   rw [hdd]
   simp only [Bool.false_eq_true, if_false]
   refine ⟨es1, ver + 1, ha1, ha2, ?_⟩
   rw [he1]
   exact happ
  | true =>
   unfold dotsB at hdd
   rw [hdd]
   simp only [if_true]
   have hroot : ∃ es' ver', es'.take ((if ((((at_ (bl w) 0).toNat : Nat) : Int) == 47) = true then xs else xs ++ [at_ ps i])).length = strsV (if ((((at_ (bl w) 0).toNat : Nat) : Int) == 47) = true then xs else xs ++ [at_ ps i]) ∧
     (if ((((at_ (bl w) 0).toNat : Nat) : Int) == 47) = true then xs else xs ++ [at_ ps i]).length ≤ es'.length ∧
     (byteAt w 0 fun n35 => (match (n35 == 47) with
       | true => nx ver xs.length ((i + 1 : Nat) : Int) ⟨es, 1, 9, ver⟩
       | false => (match getOb [some ⟨[], 1, 9, 0⟩, some ⟨es, 1, 9, ver⟩] 1 ver with
   | some ob48 => (if xs.length ≤ ob48.es.length then (match getOb [some ⟨[], 1, 9, 0⟩, some { ob48 with es := (ob48.es.take xs.length) }] 1 ver with
    | some ob49 => guardB (Nat.beq ob49.elem 9) ((if True ∧ xs.length = ob49.es.length ∧ (xs.length + 1) * 16 ≤ 140737488355328 ∧ 0 < 1 then nx (ver + 1) (xs.length + 1) ((i + 1 : Nat) : Int) ({ ob49 with es := (ob49.es ++ ([.str (at_ ps i)] : List V)), ver := (ver + 1) }) else none))
    | none => none) else none)
   | none => none))) = nx ver' (if ((((at_ (bl w) 0).toNat : Nat) : Int) == 47) = true then xs else xs ++ [at_ ps i]).length ((i + 1 : Nat) : Int) ⟨es', 1, 9, ver'⟩ := by
    rw [hb]
    cases hr : ((((at_ (bl w) 0).toNat : Nat) : Int) == 47) with
    | true => exact ⟨es, ver, hx, hl, rfl⟩
    | false =>
     simp only [Bool.false_eq_true, if_false]
     exact ⟨es1, ver + 1, ha1, ha2, by rw [he1]; exact happ⟩
   by_cases hn : 0 < xs.length
   ·have h1 : decide ((xs.length : Int) > 0) = true := decide_eq_true (by omega)
    have h2 : IntKind.i64.wrap ((xs.length : Int) - 1) = ((xs.length - 1 : Nat) : Int) := by
     rw [wrap_i64 (by omega) (by omega)]; omega
    have h3 : nth es (0 + (xs.length - 1)) = some (.str (at_ xs (xs.length - 1))) := by
     rw [Nat.zero_add]
     have : nth (es.take xs.length) (xs.length - 1) = some (.str (at_ xs (xs.length - 1))) := by rw [hx, nth_strs (by omega)]
     exact (nth_take this).1
    rw [h1]
    have hi1 : (0 : Int) ≤ ((xs.length - 1 : Nat) : Int) ∧ ((xs.length - 1 : Nat) : Int) < (xs.length : Int) := ⟨Int.natCast_nonneg _, by omega⟩
    have hi2 : (0 : Int) ≤ ((xs.length - 1 : Nat) : Int) ∧ ((xs.length - 1 : Nat) : Int) ≤ (xs.length : Int) := ⟨Int.natCast_nonneg _, by omega⟩
    simp only [getOb1, beq_self, guardB, h2, Int.toNat_natCast, h3, if_pos hi1, if_pos hi2, V.cells, List.drop_zero, asCons, asStr_str]
    have hdec : decide (0 < xs.length) = true := decide_eq_true hn
    rw [hdec]
    cases hq : dotsB (at_ xs (xs.length - 1)) with
    | false =>
     unfold dotsB at hq
     rw [hq]
     simp only [Bool.not_false, Bool.and_self, if_true]
     refine ⟨es, ver, ?_, ?_, ?_⟩
     ·rw [List.length_take, Nat.min_eq_left (by omega), strs_take, ← hx, List.take_take, Nat.min_eq_left (by omega)]
     ·rw [List.length_take]; omega
     ·rw [List.length_take, Nat.min_eq_left (by omega)]
    | true =>
     unfold dotsB at hq
     rw [hq]
     simp only [Bool.not_true, Bool.and_false, Bool.false_eq_true, if_false]
     simp only [getOb1] at hroot
     exact hroot
   ·have h1 : decide ((xs.length : Int) > 0) = false := decide_eq_false (by omega)
    rw [h1]
    have hdec : decide (0 < xs.length) = false := decide_eq_false hn
    rw [hdec]
    simp only [Bool.false_and, Bool.false_eq_true, if_false]
    exact hroot
theorem t_l2Clean {w : ByteArray} (hw : w.size ≤ 1048576) (h0 : 0 < w.size) (hN : 1048580 < N) (k : List V → Option R) :
  g_zcm N w k = k (strsV (cleanL ((((at_ (bl w) 0).toNat : Nat) : Int) == 47) (partsB w))) := by
 rw [g_zcm_eq]
 unfold gb_zcm
 rw [t_l2Parts N hw hN, len_strs]
 have hpl := partsB_len w
 generalize hps : partsB w = ps at hpl
 have hb0 : 0 < (bl w).length := by rw [← size_bl]; exact h0
 have key : ∀ (d n i : Nat) (xs : List ByteArray) (es : List V) (ver : Nat), i + d = ps.length → d < n → es.take xs.length = strsV xs → xs.length ≤ es.length → xs.length ≤ i →
   l_zcm_0 N w (strsV ps) (ps.length : Int) (fun k50 k51 O52 => (match getOb [some ⟨[], 1, 9, 0⟩, some O52] 1 k50 with
  | some ob53 => (match mapSome (freeze false [some ⟨[], 1, 9, 0⟩, some O52] 11) ((ob53.es.drop 0).take k51) with
   | some e54 => guardB (decide (0 + k51 ≤ ob53.es.length)) (guardB (e54.all V.plain) ((match Nat.beq ob53.esz 1 with
    | true => k e54
    | false => none)))
   | none => none)
  | none => none)) n ver xs.length (i : Int) ⟨es, 1, 9, ver⟩ = k (strsV ((ps.drop i).foldl (cleanS ((((at_ (bl w) 0).toNat : Nat) : Int) == 47)) xs)) := by
  intro d
  induction d with
  | zero =>
   intro n i xs es ver hi hn hx hl hxi
   obtain ⟨n, rfl⟩ : ∃ m, n = m + 1 := ⟨n - 1, by omega⟩
   obtain rfl : i = ps.length := by omega
   simp only [l_zcm_0, l_zcm_0_step]
   rw [show decide ((ps.length : Int) < (ps.length : Int)) = false from decide_eq_false (by omega)]
   simp only [getOb1, List.drop_zero, hx, freeze_strs, Nat.zero_add, decide_eq_true hl, guardB, plain_strs, beq_self, List.drop_length, List.foldl_nil]
  | succ d ih =>
   intro n i xs es ver hi hn hx hl hxi
   obtain ⟨n, rfl⟩ : ∃ m, n = m + 1 := ⟨n - 1, by omega⟩
   have hlt : i < ps.length := by omega
   rw [l_zcm_0]
   obtain ⟨es', ver', q1, q2, q3⟩ := clean_round N hb0 (by omega) hlt hx hl hxi (fun k_5 k_6 x_4 O_9 => l_zcm_0 N w (strsV ps) (ps.length : Int) (fun k50 k51 O52 => (match getOb [some ⟨[], 1, 9, 0⟩, some O52] 1 k50 with
  | some ob53 => (match mapSome (freeze false [some ⟨[], 1, 9, 0⟩, some O52] 11) ((ob53.es.drop 0).take k51) with
   | some e54 => guardB (decide (0 + k51 ≤ ob53.es.length)) (guardB (e54.all V.plain) ((match Nat.beq ob53.esz 1 with
    | true => k e54
    | false => none)))
   | none => none)
  | none => none)) n k_5 k_6 x_4 O_9) (fun k50 k51 O52 => (match getOb [some ⟨[], 1, 9, 0⟩, some O52] 1 k50 with
  | some ob53 => (match mapSome (freeze false [some ⟨[], 1, 9, 0⟩, some O52] 11) ((ob53.es.drop 0).take k51) with
   | some e54 => guardB (decide (0 + k51 ≤ ob53.es.length)) (guardB (e54.all V.plain) ((match Nat.beq ob53.esz 1 with
    | true => k e54
    | false => none)))
   | none => none)
  | none => none))
   rw [q3, ih n (i + 1) _ es' ver' (by omega) (by omega) q1 q2 (by have := cleanS_len ((((at_ (bl w) 0).toNat : Nat) : Int) == 47) xs (at_ ps i); omega)]
   have hdr : ps.drop i = at_ ps i :: ps.drop (i + 1) := by
    rw [List.drop_eq_getElem_cons hlt]
    congr 1
    exact (at_get hlt).symm
   rw [hdr, List.foldl_cons]
 exact key ps.length N 0 [] [] 0 (by omega) (by omega) rfl (Nat.le_refl 0) (Nat.le_refl 0)
end Go.VM.VL
set_option linter.unusedSimpArgs false
set_option linter.unusedVariables false
namespace Go.VM.VL
open Go
variable {R : Type} (N : Nat)
def dataSz (l : List Nod) (i : Nat) : Nat := sumTo (fun i => (at_ l i).data.size) i
theorem t_l3Bytes {l : List Nod} (hl : Small l) (hN : 1048580 < N) (f : Fl) (room : Int) (k : Int → Option R) : g_zcp N (nodsV l) f room k = k (dataSz l l.length : Nat) := by
 rw [g_zcp_eq]
 unfold gb_zcp
 rw [len_nods]
 have hll := hl.len
 refine loop_run (l := fun n i => l_zcp_0 N (nodsV l) _ (l.length : Int) (nodsV l) f room _ n (dataSz l i : Nat) (i : Int)) (len := l.length) (k1 := k (dataSz l l.length : Nat)) ?_ ?_ (show l.length < N by omega)
 ·intro n i hi
  have h1 := sumTo_le (fun i => (at_ l i).data.size) (a := i + 1) (b := l.length) (by omega)
  have h2 := hl.sum
  have h3 : sumTo (fun i => (at_ l i).data.size) (i + 1) = dataSz l i + (at_ l i).data.size := rfl
  simp only [l_zcp_0, l_zcp_0_step, lt_true hi, Int.natCast_nonneg, if_true, Int.toNat_natCast, nth_nods hi, must_some, un_inod]
  rw [wrap_i64 (by omega) (by omega), wrap_succ (i := i) (by omega)]
  rfl
 ·intro n
  simp only [l_zcp_0, l_zcp_0_step, Int.lt_irrefl, decide_false]
theorem t_bytesIn {l : List Nod} (hl : Small l) (hN : 1048580 < N) (f : Fl) (room : Int) (k : Int → Option R) : g_zaz N (nodsV l) f room k = k (dataSz l l.length : Nat) := by
 rw [g_zaz_eq]
 unfold gb_zaz
 rw [len_nods]
 have hll := hl.len
 refine loop_run (l := fun n i => l_zaz_0 N (nodsV l) _ (l.length : Int) (nodsV l) f room _ n (dataSz l i : Nat) (i : Int)) (len := l.length) (k1 := k (dataSz l l.length : Nat)) ?_ ?_ (show l.length < N by omega)
 ·intro n i hi
  have h1 := sumTo_le (fun i => (at_ l i).data.size) (a := i + 1) (b := l.length) (by omega)
  have h2 := hl.sum
  have h3 : sumTo (fun i => (at_ l i).data.size) (i + 1) = dataSz l i + (at_ l i).data.size := rfl
  simp only [l_zaz_0, l_zaz_0_step, lt_true hi, Int.natCast_nonneg, if_true, Int.toNat_natCast, nth_nods hi, must_some, un_inod]
  rw [wrap_i64 (by omega) (by omega), wrap_succ (i := i) (by omega)]
  rfl
 ·intro n
  simp only [l_zaz_0, l_zaz_0_step, Int.lt_irrefl, decide_false]
def cntTo (es : List Ent) (x : Int) (j : Nat) : Nat := sumTo (fun j => ((at_ es j).2 == x).toNat) j
def linksTo (l : List Nod) (x : Int) (i : Nat) : Nat := sumTo (fun i => cntTo (at_ l i).es x (at_ l i).es.length) i
theorem cntTo_le (es : List Ent) (x : Int) : ∀ j, cntTo es x j ≤ j
 | 0 => Nat.le_refl _
 | j + 1 => by
  have ih := cntTo_le es x j
  show cntTo es x j + ((at_ es j).2 == x).toNat ≤ _
  have := Bool.toNat_le ((at_ es j).2 == x)
  omega
theorem linksTo_le {l : List Nod} (hl : Small l) (x : Int) {i : Nat} (h : i ≤ l.length) : linksTo l x i ≤ 1048576 := by
 have h1 := sumTo_mono (g := fun i => cntTo (at_ l i).es x (at_ l i).es.length) (h := fun i => (at_ l i).es.length) (fun i => cntTo_le _ _ _) i
 have h2 := sumTo_le (fun i => (at_ l i).es.length) h
 have h3 := hl.ents
 unfold linksTo; omega
theorem l3Links_0 (es : List Ent) (hes : es.length ≤ 1048576) (hN : 1048580 < N) (x : Int) (c0 : Nat) (hc : c0 ≤ 1048576) (e_3 : List V) (f_4 : Fl) (x_5 x_6 : Int) (f_8 : Fl) (e_11 : List V) (f_12 : Fl) (x_13 x_14 x_15 x_16 x_17 x_18 : Int) (w_19 : ByteArray) (e_20 : List V) (f_21 : Fl) (k0 : Int → Option R) :
  l_zcq_0 N x e_3 f_4 x_5 x_6 (entsV es) f_8 (es.length : Int) e_11 f_12 x_13 x_14 x_15 x_16 x_17 x_18 w_19 e_20 f_21 k0 N (c0 : Int) 0 = k0 ((c0 + cntTo es x es.length : Nat) : Int) := by
 refine loop_run (l := fun n i => l_zcq_0 N x e_3 f_4 x_5 x_6 (entsV es) f_8 (es.length : Int) e_11 f_12 x_13 x_14 x_15 x_16 x_17 x_18 w_19 e_20 f_21 k0 n ((c0 + cntTo es x i : Nat) : Int) (i : Int)) (len := es.length) (k1 := k0 ((c0 + cntTo es x es.length : Nat) : Int)) ?_ ?_ (show es.length < N by omega)
 ·intro n i hi
  have h1 := cntTo_le es x i
  have h2 : cntTo es x (i + 1) = cntTo es x i + ((at_ es i).2 == x).toNat := rfl
  simp only [l_zcq_0, l_zcq_0_step, lt_true hi, Int.natCast_nonneg, if_true, Int.toNat_natCast, nth_ents hi, must_some, un_ient]
  rw [h2, wrap_succ (i := i) (by omega)]
  cases h : ((at_ es i).2 == x) with
  | true => simp only; rw [wrap_succ (i := c0 + cntTo es x i) (by omega)]; rfl
  | false => rfl
 ·intro n
  simp only [l_zcq_0, l_zcq_0_step, Int.lt_irrefl, decide_false]
theorem t_l3Links {l : List Nod} (hl : Small l) (hN : 1048580 < N) (f : Fl) (room x : Int) (k : Int → Option R) : g_zcq N (nodsV l) f room x k = k (linksTo l x l.length : Nat) := by
 rw [g_zcq_eq]
 unfold gb_zcq
 rw [len_nods]
 have hll := hl.len
 refine loop_run (l := fun n i => l_zcq_1 N x (nodsV l) _ (l.length : Int) (nodsV l) f room _ n (linksTo l x i : Nat) (i : Int)) (len := l.length) (k1 := k (linksTo l x l.length : Nat)) ?_ ?_ (show l.length < N by omega)
 ·intro n i hi
  simp only [l_zcq_1, l_zcq_1_step, lt_true hi, Int.natCast_nonneg, if_true, Int.toNat_natCast, nth_nods hi, must_some, un_inod, len_ents]
  rw [l3Links_0 N _ (hl.es i hi) hN _ _ (linksTo_le hl x (Nat.le_of_lt hi)), wrap_succ (i := i) (by omega)]
  rfl
 ·intro n
  simp only [l_zcq_1, l_zcq_1_step, Int.lt_irrefl, decide_false]
def entB (lo : Int) (l : List Nod) (es : List Ent) (j : Nat) : Bool :=
 nameB (at_ es j).1 && (decide (j = 0) || Op.bytesLess (at_ es (j - 1)).1.toList (at_ es j).1.toList) && (inR (at_ es j).2 lo ((l.length : Int) - 1) && ((at_ l (at_ es j).2.toNat).kind != 0))
def entsB (lo : Int) (l : List Nod) (es : List Ent) : Bool := (List.range' 0 es.length).all (entB lo l es)
theorem t_l3Entries {l : List Nod} (hll : l.length ≤ 1048576) {es : List Ent} (hes : es.length ≤ 1048576) (hz : ∀ j, j < es.length → (at_ es j).1.size ≤ 1048576) (hN : 1048580 < N) (f g : Fl) (room : Int) (k : Bool → Option R) :
  g_zbj N (nodsV l) f room (entsV es) g k = k (entsB 1 l es) := by
 rw [g_zbj_eq]
 unfold gb_zbj
 rw [len_ents]
 refine (loop_all (l := fun n i => l_zbj_0 N (entsV es) g (entsV es) _ (es.length : Int) (nodsV l) f room (fun _ => k false) (fun _ => k true) n (i : Int)) (len := es.length) (p := entB 1 l es) (k0 := k false) (k1 := k true) ?_ ?_ (show es.length < N by omega)).trans ?_
 ·intro n i hi _
  simp only [l_zbj_0, l_zbj_0_step, lt_true hi, Int.natCast_nonneg, if_true, Int.toNat_natCast, nth_ents hi, must_some, un_ient, t_zdj N (hz i hi) (by omega : 1048576 < N), len_nods, t_zdx]
  rw [wrap_succ (i := i) (by omega), wrap_i64 (x := (l.length : Int) - 1) (by omega) (by omega)]
  unfold entB
  cases h : inR (at_ es i).2 1 ((l.length : Int) - 1) with
  | false =>
   cases nameB (at_ es i).1 with
   | false => rfl
   | true =>
    by_cases h0 : i = 0
    ·subst h0; rfl
    ·rw [decide_eq_true (p := ((i : Int) > 0)) (by omega), decide_eq_false h0]
     simp only [Bool.not_true, Bool.true_and, Bool.false_or]
     rw [wrap_i64 (x := (i : Int) - 1) (by omega) (by omega), if_pos (by omega), show ((i : Int) - 1).toNat = i - 1 by omega, nth_ents (by omega)]
     simp only [must_some, un_ient]
     cases Op.bytesLess (at_ es (i - 1)).1.toList (at_ es i).1.toList <;> rfl
  | true =>
   obtain ⟨h1, h2⟩ := inR_iff.1 h
   have h3 : 0 ≤ (at_ es i).2 := by omega
   simp only [if_pos h3, nth_nods (show (at_ es i).2.toNat < l.length by omega), must_some, un_inod]
   rw [show ((at_ l (at_ es i).2.toNat).kind != 0) = !((at_ l (at_ es i).2.toNat).kind == 0) from rfl]
   generalize ((at_ l (at_ es i).2.toNat).kind == 0) = c
   cases nameB (at_ es i).1 with
   | false => rfl
   | true =>
    by_cases h0 : i = 0
    ·subst h0; cases c <;> rfl
    ·rw [decide_eq_true (p := ((i : Int) > 0)) (by omega), decide_eq_false h0]
     simp only [Bool.not_true, Bool.true_and, Bool.false_or]
     rw [wrap_i64 (x := (i : Int) - 1) (by omega) (by omega), if_pos (by omega), show ((i : Int) - 1).toNat = i - 1 by omega, nth_ents (by omega)]
     simp only [must_some, un_ient]
     cases Op.bytesLess (at_ es (i - 1)).1.toList (at_ es i).1.toList <;> cases c <;> rfl
 ·intro _ n
  simp only [l_zbj_0, l_zbj_0_step, Int.lt_irrefl, decide_false]
 ·show (if entsB 1 l es = true then _ else _) = _
  cases entsB 1 l es <;> rfl
def freeB (n : Nod) : Bool := (n.mode == 0) && (n.uid == 0) && (n.gid == 0) && (n.time == 0) && emptyB n.data && ((n.es.length : Int) == 0)
def kindB (lo : Int) (l : List Nod) (n : Nod) : Bool :=
 if n.kind = 1 then decide ((n.data.size : Int) ≤ 60) && ((n.es.length : Int) == 0)
 else if n.kind = 2 then emptyB n.data && entsB lo l n.es
 else if n.kind = 3 then pathB n.data && ((n.es.length : Int) == 0)
 else false
def nodB (lo : Int) (l : List Nod) (n : Nod) : Bool :=
 if n.kind = 0 then freeB n else inR n.mode 0 511 && inR n.uid 0 99 && inR n.gid 0 99 && inR n.time 0 1000000 && kindB lo l n
structure NodSmall (n : Nod) : Prop where
 data : n.data.size ≤ 1048576
 es : n.es.length ≤ 1048576
 name : ∀ j, j < n.es.length → (at_ n.es j).1.size ≤ 1048576
theorem Small.nod {l : List Nod} (h : Small l) {i : Nat} (hi : i < l.length) : NodSmall (at_ l i) := ⟨h.data i hi, h.es i hi, h.name i hi⟩
theorem t_l3Node {l : List Nod} (hll : l.length ≤ 1048576) {n : Nod} (hn : NodSmall n) (hN : 1048580 < N) (f g : Fl) (room : Int) (k : Bool → Option R) :
  g_zdm N (nodsV l) f room n.kind n.mode n.uid n.gid n.time n.data (entsV n.es) g k = k (nodB 1 l n) := by
 rw [g_zdm_eq]
 unfold gb_zdm
 rw [g_zdh_eq]
 unfold gb_zdh
 simp only [t_zdx, t_l3Entries N hll hn.es hn.name hN, t_l2Path N hn.data hN, len_ents]
 unfold nodB kindB freeB
 rw [show (n.data.toList == (ByteArray.mk #[]).toList) = emptyB n.data from rfl]
 by_cases h0 : n.kind = 0
 ·rw [if_pos h0, beq_iff_eq.2 h0]
  cases (n.mode == 0) <;> cases (n.uid == 0) <;> cases (n.gid == 0) <;> cases (n.time == 0) <;> cases emptyB n.data <;> rfl
 ·rw [if_neg h0, beq_false_of_ne h0]
  cases inR n.mode 0 511 <;> cases inR n.uid 0 99 <;> cases inR n.gid 0 99 <;> cases inR n.time 0 1000000 <;> try rfl
  simp only [Bool.not_true, Bool.true_and]
  by_cases h1 : n.kind = 1
  ·rw [if_pos h1, beq_iff_eq.2 h1]
   cases decide ((n.data.size : Int) ≤ 60) <;> rfl
  ·rw [if_neg h1, beq_false_of_ne h1]
   by_cases h2 : n.kind = 2
   ·rw [if_pos h2, beq_iff_eq.2 h2]
    cases emptyB n.data <;> rfl
   ·rw [if_neg h2, beq_false_of_ne h2]
    by_cases h3 : n.kind = 3
    ·rw [if_pos h3, beq_iff_eq.2 h3]
     cases pathB n.data <;> rfl
    ·rw [if_neg h3, beq_false_of_ne h3]
theorem t_isThere {l : List Nod} (hll : l.length ≤ 1048576) (f : Fl) (room x : Int) (k : Bool → Option R) :
  g_zba N (nodsV l) f room x k = k (inR x 0 ((l.length : Int) - 1) && ((at_ l x.toNat).kind != 0)) := by
 rw [g_zba_eq]
 unfold gb_zba
 rw [t_zdb, len_nods, wrap_i64 (x := (l.length : Int) - 1) (by omega) (by omega)]
 cases h : inR x 0 ((l.length : Int) - 1) with
 | false => rfl
 | true =>
  obtain ⟨h1, h2⟩ := inR_iff.1 h
  simp only
  rw [if_pos h1, nth_nods (by omega)]
  rfl
theorem isNode_0 {l : List Nod} (hll : l.length ≤ 1048576) {es : List Ent} (hes : es.length ≤ 1048576) (hz : ∀ j, j < es.length → (at_ es j).1.size ≤ 1048576) (hN : 1048580 < N) (f g h : Fl) (room x_8 x_9 x_10 x_11 x_12 : Int) (w : ByteArray) (a b : Option R) :
  l_zbe_0 N (entsV es) f (es.length : Int) (nodsV l) g room x_8 x_9 x_10 x_11 x_12 w (entsV es) h (fun _ => a) (fun _ => b) N 0 = if entsB 0 l es then b else a := by
 refine loop_all (l := fun n i => l_zbe_0 N (entsV es) f (es.length : Int) (nodsV l) g room x_8 x_9 x_10 x_11 x_12 w (entsV es) h (fun _ => a) (fun _ => b) n (i : Int)) (len := es.length) (p := entB 0 l es) (k0 := a) (k1 := b) ?_ ?_ (show es.length < N by omega)
 ·intro n i hi _
  simp only [l_zbe_0, l_zbe_0_step, lt_true hi, Int.natCast_nonneg, if_true, Int.toNat_natCast, nth_ents hi, must_some, un_ient, t_GoodName N (hz i hi) (by omega : 1048576 < N), t_isThere N hll]
  rw [wrap_succ (i := i) (by omega)]
  unfold entB
  generalize (inR (at_ es i).2 0 ((l.length : Int) - 1) && ((at_ l (at_ es i).2.toNat).kind != 0)) = c
  cases nameB (at_ es i).1 with
  | false => rfl
  | true =>
   by_cases h0 : i = 0
   ·subst h0
    cases c <;> rfl
   ·rw [decide_eq_true (p := ((i : Int) > 0)) (by omega), decide_eq_false h0]
    simp only [Bool.not_true, Bool.true_and, Bool.false_or]
    rw [wrap_i64 (x := (i : Int) - 1) (by omega) (by omega), if_pos (by omega), show ((i : Int) - 1).toNat = i - 1 by omega, nth_ents (by omega)]
    simp only [must_some, un_ient]
    cases Op.bytesLess (at_ es (i - 1)).1.toList (at_ es i).1.toList <;> cases c <;> rfl
 ·intro _ n
  simp only [l_zbe_0, l_zbe_0_step, Int.lt_irrefl, decide_false]
theorem t_isNode {l : List Nod} (hll : l.length ≤ 1048576) {n : Nod} (hn : NodSmall n) (hN : 1048580 < N) (f g : Fl) (room : Int) (k : Bool → Option R) :
  g_zbe N (nodsV l) f room n.kind n.mode n.uid n.gid n.time n.data (entsV n.es) g k = k (nodB 0 l n) := by
 rw [g_zbe_eq]
 unfold gb_zbe
 rw [g_zcx_eq, g_zdt_eq, g_zda_eq, g_zax_eq]
 unfold gb_zcx gb_zdt gb_zda gb_zax
 simp only [t_zdb, t_GoodPath N hn.data hN, len_ents, isNode_0 N hll hn.es hn.name hN]
 unfold nodB kindB freeB
 rw [show (n.data.toList == (ByteArray.mk #[]).toList) = emptyB n.data from rfl]
 by_cases h0 : n.kind = 0
 ·rw [if_pos h0, beq_iff_eq.2 h0]
  cases (n.mode == 0) <;> cases (n.uid == 0) <;> cases (n.gid == 0) <;> cases (n.time == 0) <;> cases emptyB n.data <;> rfl
 ·rw [if_neg h0, beq_false_of_ne h0]
  cases inR n.mode 0 511 <;> cases inR n.uid 0 99 <;> cases inR n.gid 0 99 <;> cases inR n.time 0 1000000 <;> try rfl
  simp only [Bool.not_true, Bool.true_and]
  have hle : decide ((n.es.length : Int) > 0) = !((n.es.length : Int) == 0) := by
   by_cases h : (n.es.length : Int) = 0
   ·rw [h]; rfl
   ·rw [beq_false_of_ne h, decide_eq_true (by omega)]; rfl
  rw [hle]
  by_cases h1 : n.kind = 1
  ·rw [h1]
   cases ((n.es.length : Int) == 0) <;> cases decide ((n.data.size : Int) ≤ 60) <;> rfl
  ·rw [if_neg h1]
   by_cases h2 : n.kind = 2
   ·rw [h2]
    show (if entsB 0 l n.es = true then k (emptyB n.data) else k false) = k (emptyB n.data && entsB 0 l n.es)
    cases entsB 0 l n.es <;> cases emptyB n.data <;> rfl
   ·rw [if_neg h2, show (n.kind != 2) = true from bne_iff_ne.2 h2, beq_false_of_ne h1, beq_false_of_ne h2]
    by_cases h3 : n.kind = 3
    ·rw [if_pos h3, beq_iff_eq.2 h3]
     cases ((n.es.length : Int) == 0) <;> cases pathB n.data <;> rfl
    ·rw [if_neg h3, beq_false_of_ne h3]
     cases ((n.es.length : Int) == 0) <;> rfl
end Go.VM.VL
set_option linter.unusedSimpArgs false
set_option linter.unusedVariables false
namespace Go.VM.VL
open Go
variable {R : Type} (N : Nat)
theorem sumTo_add (g h : Nat → Nat) : ∀ n, sumTo (fun i => g i + h i) n = sumTo g n + sumTo h n
 | 0 => rfl
 | n + 1 => by
  have := sumTo_add g h n
  show sumTo (fun i => g i + h i) n + (g n + h n) = _
  rw [this]
  show _ = (sumTo g n + g n) + (sumTo h n + h n)
  omega
theorem sumTo_congr {g h : Nat → Nat} : ∀ n, (∀ i, i < n → g i = h i) → sumTo g n = sumTo h n
 | 0, _ => rfl
 | n + 1, e => by
  show sumTo g n + g n = sumTo h n + h n
  rw [sumTo_congr n fun i hi => e i (by omega), e n (by omega)]
theorem sumTo_zero : ∀ n, sumTo (fun _ => 0) n = 0
 | 0 => rfl
 | n + 1 => by show sumTo (fun _ => 0) n + 0 = 0; rw [sumTo_zero n]
theorem sumTo_one (g : Nat → Nat) {a : Nat} : ∀ n, a < n → sumTo (fun i => if i = a then g i else 0) n = g a
 | 0, h => by omega
 | n + 1, h => by
  show sumTo (fun i => if i = a then g i else 0) n + (if n = a then g n else 0) = _
  by_cases hn : n = a
  ·subst hn
   rw [if_pos rfl, sumTo_congr (h := fun _ => 0) n fun i hi => if_neg (by omega), sumTo_zero]; omega
  ·rw [if_neg hn, sumTo_one g n (by omega)]; rfl
structure Dist (len : Nat) (s : List Nat) : Prop where
 one : ∀ n, s.count n ≤ 1
 lt : ∀ n ∈ s, n < len
def sumL (g : Nat → Nat) : List Nat → Nat
 | [] => 0
 | a :: l => g a + sumL g l
theorem sumL_count (g : Nat → Nat) {len : Nat} : ∀ (s : List Nat), (∀ n ∈ s, n < len) → sumL g s = sumTo (fun n => s.count n * g n) len
 | [], _ => by simp [sumL, sumTo_zero]
 | a :: s, h => by
  have ih := sumL_count g s fun n hn => h n (List.mem_cons_of_mem _ hn)
  have e : sumTo (fun n => (a :: s).count n * g n) len = sumTo (fun n => (s.count n * g n) + (if n = a then g n else 0)) len := sumTo_congr _ fun n _ => by
   by_cases hn : n = a
   ·subst hn; rw [List.count_cons_self, if_pos rfl, Nat.add_mul, Nat.one_mul]
   ·rw [List.count_cons_of_ne (fun h => hn h.symm), if_neg hn, Nat.add_zero]
  show g a + sumL g s = _
  rw [e, sumTo_add, ← ih, sumTo_one g len (h a List.mem_cons_self)]; omega
theorem Dist.sum {len : Nat} {s : List Nat} (h : Dist len s) (g : Nat → Nat) : sumL g s ≤ sumTo g len := by
 rw [sumL_count g s h.lt]
 exact sumTo_mono (fun n => by
  have := h.one n
  calc s.count n * g n ≤ 1 * g n := Nat.mul_le_mul_right _ this
   _ = g n := Nat.one_mul _) _
theorem sumTo_ones : ∀ n, sumTo (fun _ => 1) n = n
 | 0 => rfl
 | n + 1 => by show sumTo (fun _ => 1) n + 1 = _; rw [sumTo_ones n]
theorem sumL_ones : ∀ s : List Nat, sumL (fun _ => 1) s = s.length
 | [] => rfl
 | a :: s => by show 1 + sumL _ s = _; rw [sumL_ones s, List.length_cons]; omega
theorem Dist.len {len : Nat} {s : List Nat} (h : Dist len s) : s.length ≤ len := by
 have := h.sum fun _ => 1
 rwa [sumTo_ones, sumL_ones] at this
def natsV (s : List Nat) : List V := s.map fun (n : Nat) => V.int .i64 (n : Int)
theorem len_nats (s : List Nat) : (natsV s).length = s.length := by simp [natsV]
theorem nth_nats {s : List Nat} {i : Nat} (h : i < s.length) : nth (natsV s) i = some (.int .i64 (at_ s i : Nat)) := by rw [natsV, nth_map0, nth_get h, at_get h]; rfl
theorem t_l1Has {s : List Nat} (hs : s.length ≤ 1048576) (hN : 1048580 < N) (f : Fl) (x : Nat) (k : Bool → Option R) : g_zdo N (natsV s) f (x : Int) k = k (s.contains x) := by
 rw [g_zdo_eq]
 unfold gb_zdo
 rw [len_nats]
 refine (loop_all (l := fun n i => l_zdo_0 N (x : Int) (natsV s) _ (s.length : Int) _ _ n (i : Int)) (len := s.length) (p := fun i => !(at_ s i == x)) (k0 := k true) (k1 := k false) ?_ ?_ (show s.length < N by omega)).trans ?_
 ·intro n i hi _
  simp only [l_zdo_0, l_zdo_0_step, lt_true hi, Int.natCast_nonneg, if_true, Int.toNat_natCast, nth_nats hi, must_some, asInt_int]
  rw [wrap_succ (i := i) (by omega), show (((at_ s i : Nat) : Int) == (x : Int)) = (at_ s i == x) by
   by_cases h : at_ s i = x
   ·rw [beq_iff_eq.2 h, beq_iff_eq.2 (by rw [h])]
   ·rw [beq_false_of_ne h, beq_false_of_ne (by omega)]]
  cases (at_ s i == x) <;> rfl
 ·intro _ n
  simp only [l_zdo_0, l_zdo_0_step, Int.lt_irrefl, decide_false]
 ·have e : (List.range' 0 s.length).all (fun i => !(at_ s i == x)) = !s.contains x := by
   rw [Bool.eq_iff_iff, all_range, Bool.not_eq_true', ← Bool.not_eq_true, List.contains_iff_mem]
   constructor
   ·intro h hm
    obtain ⟨i, hi, he⟩ := List.getElem_of_mem hm
    have := h i hi
    rw [at_get hi, he] at this
    simp at this
   ·intro h i hi
    rw [at_get hi]
    cases hb : (s[i] == x) with
    | false => rfl
    | true => exact absurd (by rw [← beq_iff_eq.1 hb]; exact List.getElem_mem hi) h
  rw [e]
  cases s.contains x <;> rfl
def putAt (s : List Nat) (x : Nat) : Nat := match (List.range' 0 s.length).findSome? (fun i => if at_ s i < x then none else some i) with | some i => i | none => s.length
def putL (s : List Nat) (x : Nat) : List Nat := s.take (putAt s x) ++ [x] ++ s.drop (putAt s x)
theorem putAt_le (s : List Nat) (x : Nat) : putAt s x ≤ s.length := by
 unfold putAt
 cases h : (List.range' 0 s.length).findSome? (fun i => if at_ s i < x then none else some i) with
 | none => exact Nat.le_refl _
 | some i =>
  obtain ⟨j, hj, he⟩ := List.exists_of_findSome?_eq_some h
  rw [List.mem_range'] at hj
  obtain ⟨m, hm, rfl⟩ := hj
  split at he
  ·cases he
  ·obtain rfl := Option.some.inj he
   show 0 + 1 * m ≤ _
   omega
theorem putL_count (s : List Nat) (x n : Nat) : (putL s x).count n = s.count n + if x = n then 1 else 0 := by
 unfold putL
 have e : (s.take (putAt s x)).count n + (s.drop (putAt s x)).count n = s.count n := by rw [← List.count_append, List.take_append_drop]
 rw [List.count_append, List.count_append, List.count_singleton]
 by_cases h : x = n
 ·subst h; simp; omega
 ·rw [if_neg h, beq_false_of_ne h]; simp; omega
theorem putL_mem (s : List Nat) (x n : Nat) : n ∈ putL s x ↔ n ∈ s ∨ n = x := by
 have h1 := putL_count s x n
 rw [← List.count_pos_iff, ← List.count_pos_iff, h1]
 by_cases h : x = n
 ·subst h; simp
 ·rw [if_neg h]
  constructor
  ·intro h2; exact .inl (by omega)
  ·rintro (h2 | rfl)
   ·omega
   ·exact absurd rfl h
theorem putL_len (s : List Nat) (x : Nat) : (putL s x).length = s.length + 1 := by
 have := putAt_le s x
 unfold putL
 simp only [List.length_append, List.length_take, List.length_drop, List.length_singleton]; omega
theorem natsV_noOwn (s : List Nat) : (natsV s).map V.noOwn = natsV s := by unfold natsV; rw [List.map_map]; rfl
theorem natsV_take (s : List Nat) (j : Nat) : (natsV s).take j = natsV (s.take j) := by unfold natsV; rw [List.map_take]
theorem natsV_drop (s : List Nat) (j : Nat) : (natsV s).drop j = natsV (s.drop j) := by unfold natsV; rw [List.map_drop]
theorem natsV_app (s t : List Nat) : natsV s ++ natsV t = natsV (s ++ t) := by unfold natsV; rw [List.map_append]
theorem okAdd_sh (es : List V) : okAdd .sh es = true := rfl
theorem t_l1Put {s : List Nat} (hs : s.length ≤ 1048576) (hN : 1048580 < N) {x : Nat} (hx : x ∉ s) (k : List V → Option R) : g_zdq N (natsV s) .sh (x : Int) k = k (natsV (putL s x)) := by
 rw [g_zdq_eq]
 unfold gb_zdq
 have hx1 : ([.int .i64 (x : Int)] : List V) = natsV [x] := rfl
 simp only [hx1, len_nats, Fl.noOwn, okAdd_sh, guardB]
 refine (loop_first (β := Nat) (l := fun n i => l_zdq_0 N (natsV s) .sh (x : Int) _ n (i : Int)) (len := s.length) (q := fun i => if at_ s i < x then none else some i) (kb := fun i => k (natsV (s.take i ++ [x] ++ s.drop i))) (k1 := k (natsV (s.take s.length ++ [x] ++ s.drop s.length))) ?_ ?_ (show s.length < N by omega)).trans ?_
 ·intro n i hi _
  simp only [l_zdq_0, l_zdq_0_step, len_nats, lt_true hi, Int.natCast_nonneg, if_true, Int.toNat_natCast, nth_nats hi, must_some, asInt_int]
  by_cases h : at_ s i < x
  ·rw [decide_eq_true (show ((at_ s i : Nat) : Int) < (x : Int) by omega), if_pos h, wrap_succ (i := i) (by omega)]
  ·rw [decide_eq_false (show ¬ ((at_ s i : Nat) : Int) < (x : Int) by omega), if_neg h]
   have hne : (((at_ s i : Nat) : Int) == (x : Int)) = false := beq_false_of_ne fun he => hx (by rw [← show at_ s i = x by omega]; exact at_mem hi)
   simp only [hne]
   simp only [natsV_take, natsV_drop, natsV_noOwn, List.drop_zero, List.nil_append, natsV_app, len_nats]
   have hle : (i : Int) ≤ (s.length : Int) := by omega
   simp only [true_and, hle, if_true]
   repeat rw [if_pos (by (try simp only [List.length_append, List.length_take, List.length_drop, List.length_singleton]); omega)]
   rw [List.take_of_length_le (Nat.le_refl _)]
 ·intro _ n
  simp only [l_zdq_0, l_zdq_0_step, len_nats, Int.lt_irrefl, decide_false]
  simp only [natsV_take, natsV_drop, natsV_noOwn, List.drop_zero, List.nil_append, natsV_app, len_nats, Int.toNat_natCast]
  rw [if_pos (show (0 : Int) ≤ (s.length : Int) ∧ (s.length : Int) ≤ (s.length : Int) from ⟨by omega, by omega⟩), List.take_of_length_le (Nat.le_refl _)]
  repeat rw [if_pos (by (try simp only [List.length_append, List.length_take, List.length_drop, List.length_singleton]); omega)]
 ·unfold putL putAt
  cases (List.range' 0 s.length).findSome? (fun i => if at_ s i < x then none else some i) <;> rfl
def EntOk (l : List Nod) : Prop := ∀ i, i < l.length → ∀ j, j < (at_ l i).es.length → 0 ≤ (at_ (at_ l i).es j).2 ∧ (at_ (at_ l i).es j).2 < l.length
def kid (l : List Nod) (x j : Nat) : Nat := (at_ (at_ l x).es j).2.toNat
theorem EntOk.kid {l : List Nod} (h : EntOk l) {x j : Nat} (hx : x < l.length) (hj : j < (at_ l x).es.length) : kid l x j < l.length ∧ (at_ (at_ l x).es j).2 = (kid l x j : Nat) := by
 have := h x hx j hj
 unfold VL.kid
 omega
def metF (f : Nat → List Nat → List Nat) (l : List Nod) (x : Nat) (s : List Nat) : Nat → List Nat
 | 0 => s
 | j + 1 => f (kid l x j) (metF f l x s j)
def metP (l : List Nod) : Nat → Nat → List Nat → List Nat
 | 0, _, s => s
 | M + 1, x, s => if s.contains x then s else metF (metP l M) l x (putL s x) (at_ l x).es.length
def metL (l : List Nod) (M x : Nat) (s : List Nat) (j : Nat) : List Nat := metF (metP l M) l x s j
theorem Dist.put {len : Nat} {s : List Nat} (h : Dist len s) {x : Nat} (hx : x < len) (hn : s.contains x = false) : Dist len (putL s x) := by
 have hnm : x ∉ s := fun hm => by rw [List.contains_iff_mem.2 hm] at hn; cases hn
 refine ⟨fun n => ?_, fun n hm => ?_⟩
 ·rw [putL_count]
  by_cases hxn : x = n
  ·subst hxn
   rw [if_pos rfl, List.count_eq_zero.2 hnm]; omega
  ·rw [if_neg hxn]; exact h.one n
 ·rcases (putL_mem s x n).1 hm with h2 | rfl
  ·exact h.lt n h2
  ·exact hx
structure MetOk (l : List Nod) (s r : List Nat) : Prop where
 dist : Dist l.length r
 sub : ∀ n ∈ s, n ∈ r
 len : s.length ≤ r.length
 closed : ∀ n ∈ r, n ∉ s → ∀ j, j < (at_ l n).es.length → kid l n j ∈ r
inductive Reach (l : List Nod) : Nat → Prop where
 | root : Reach l 0
 | step {x j : Nat} : Reach l x → x < l.length → j < (at_ l x).es.length → Reach l (kid l x j)
theorem MetOk.refl {l : List Nod} {s : List Nat} (h : Dist l.length s) : MetOk l s s := ⟨h, fun _ h => h, Nat.le_refl _, fun n h1 h2 => absurd h1 h2⟩
theorem MetOk.trans {l : List Nod} {s r t : List Nat} (h1 : MetOk l s r) (h2 : MetOk l r t) : MetOk l s t :=
 ⟨h2.dist, fun n h => h2.sub n (h1.sub n h), Nat.le_trans h1.len h2.len, fun n hn hs j hj => by
  by_cases hr : n ∈ r
  ·exact h2.sub _ (h1.closed n hr hs j hj)
  ·exact h2.closed n hn hr j hj⟩
theorem met_ok {l : List Nod} (he : EntOk l) : ∀ (M x : Nat) (s : List Nat), x < l.length → Dist l.length s → l.length - s.length < M →
  MetOk l s (metP l M x s) ∧ x ∈ metP l M x s ∧ ((Reach l x → ∀ n ∈ s, Reach l n) → Reach l x → ∀ n ∈ metP l M x s, Reach l n)
 | 0, x, s, _, _, h => by omega
 | M + 1, x, s, hx, hs, hM => by
  rw [show metP l (M + 1) x s = if s.contains x then s else metL l M x (putL s x) (at_ l x).es.length from rfl]
  cases hc : s.contains x with
  | true => exact ⟨MetOk.refl hs, List.contains_iff_mem.1 hc, fun h1 h2 => h1 h2⟩
  | false =>
   have hd := hs.put hx hc
   have hl := hd.len
   rw [putL_len] at hl
   have hL : ∀ j, j ≤ (at_ l x).es.length → MetOk l (putL s x) (metL l M x (putL s x) j) ∧ (∀ i, i < j → kid l x i ∈ metL l M x (putL s x) j) ∧
     ((∀ n ∈ s, Reach l n) → Reach l x → ∀ n ∈ metL l M x (putL s x) j, Reach l n) := by
    intro j
    induction j with
    | zero =>
     intro _
     rw [show metL l M x (putL s x) 0 = putL s x from rfl]
     refine ⟨MetOk.refl hd, fun i hi => by omega, fun h1 h2 n hn => ?_⟩
     rcases (putL_mem s x n).1 hn with h3 | rfl
     ·exact h1 n h3
     ·exact h2
    | succ j ih =>
     intro hj
     obtain ⟨i1, i2, i3⟩ := ih (by omega)
     have hk := (he.kid hx (show j < (at_ l x).es.length by omega)).1
     have hlen := i1.len
     rw [putL_len] at hlen
     obtain ⟨m1, m2, m3⟩ := met_ok he M (kid l x j) _ hk i1.dist (by omega)
     rw [show metL l M x (putL s x) (j + 1) = metP l M (kid l x j) (metL l M x (putL s x) j) from rfl]
     refine ⟨i1.trans m1, fun i hi => ?_, fun h1 h2 n hn => ?_⟩
     ·rcases Nat.lt_or_ge i j with h3 | h3
      ·exact m1.sub _ (i2 i h3)
      ·obtain rfl : i = j := by omega
       exact m2
     ·exact m3 (fun _ => i3 h1 h2) (Reach.step h2 hx (by omega)) n hn
   obtain ⟨h1, h2, h3⟩ := hL _ (Nat.le_refl _)
   refine ⟨⟨h1.dist, fun n hn => h1.sub n ((putL_mem s x n).2 (.inl hn)), by have := h1.len; rw [putL_len] at this; simp only [Bool.false_eq_true, if_false]; omega, fun n hn hns j hj => ?_⟩, h1.sub x ((putL_mem s x x).2 (.inr rfl)), fun h4 h5 => h3 (h4 h5) h5⟩
   by_cases hnx : n = x
   ·subst hnx; exact h2 j hj
   ·exact h1.closed n hn (fun hm => by
     rcases (putL_mem s x n).1 hm with h6 | h6
     ·exact hns h6
     ·exact hnx h6) j hj
theorem t_l3Met {l : List Nod} (hl : Small l) (he : EntOk l) (hN : 1048580 < N) (room : Int) : ∀ (M x : Nat) (s : List Nat) (f : Fl), x < l.length → Dist l.length s → l.length - s.length < M →
  ∀ (k : List V → Option R), g_zdr N M R (nodsV l) f room (x : Int) (natsV s) .sh k = k (natsV (metP l M x s))
 | 0, x, s, _, _, _, h => by omega
 | M + 1, x, s, f, hx, hs, hM => by
  intro k
  have hll := hl.len
  have hsl := hs.len
  rw [g_zdr_eq]
  unfold gb_zdr
  rw [t_l1Has N (by omega) hN, show metP l (M + 1) x s = if s.contains x then s else metL l M x (putL s x) (at_ l x).es.length from rfl]
  cases hc : s.contains x with
  | true => rfl
  | false =>
   have hnm : x ∉ s := fun hm => by rw [List.contains_iff_mem.2 hm] at hc; cases hc
   have hd := hs.put hx hc
   have hl2 := hd.len
   rw [putL_len] at hl2
   simp only [Fl.noOwn, t_l1Put N (show s.length ≤ 1048576 by omega) hN hnm, Bool.false_eq_true, if_false]
   rw [if_pos (by omega), Int.toNat_natCast, nth_nods hx]
   simp only [must_some, un_inod, len_ents]
   have hes := hl.es x hx
   have hmL : ∀ j, j ≤ (at_ l x).es.length → MetOk l (putL s x) (metL l M x (putL s x) j) := by
    intro j
    induction j with
    | zero => intro _; rw [show metL l M x (putL s x) 0 = putL s x from rfl]; exact MetOk.refl hd
    | succ j ih =>
     intro hj
     have i1 := ih (by omega)
     have hlen := i1.len
     rw [putL_len] at hlen
     rw [show metL l M x (putL s x) (j + 1) = metP l M (kid l x j) (metL l M x (putL s x) j) from rfl]
     exact i1.trans (met_ok he M (kid l x j) _ (he.kid hx (show j < (at_ l x).es.length by omega)).1 i1.dist (by omega)).1
   have e0 : natsV (putL s x) = natsV (metL l M x (putL s x) 0) := rfl
   conv => lhs; rw [e0]
   refine loop_run (l := fun n i => l_zdr_0 N (g_zdr N M) (entsV (at_ l x).es) _ ((at_ l x).es.length : Int) (nodsV l) f room _ n (natsV (metL l M x (putL s x) i)) (i : Int)) (len := (at_ l x).es.length) (k1 := k (natsV (metL l M x (putL s x) (at_ l x).es.length))) ?_ ?_ (show (at_ l x).es.length < N by omega)
   ·intro n i hi
    have h1 := hmL i (by omega)
    have h2 := h1.len
    rw [putL_len] at h2
    obtain ⟨h3, h4⟩ := he.kid hx hi
    simp only [l_zdr_0, l_zdr_0_step, lt_true hi, Int.natCast_nonneg, if_true, Int.toNat_natCast, nth_ents hi, must_some, un_ient, h4]
    rw [t_l3Met hl he hN room M (kid l x i) _ _ h3 h1.dist (by omega), wrap_succ (i := i) (by omega)]
    rw [show metL l M x (putL s x) (i + 1) = metP l M (kid l x i) (metL l M x (putL s x) i) from rfl]
   ·intro n
    simp only [l_zdr_0, l_zdr_0_step, Int.lt_irrefl, decide_false]
end Go.VM.VL
set_option linter.unusedSimpArgs false
set_option linter.unusedVariables false
namespace Go.VM.VL
open Go
variable {R : Type} (N : Nat)
theorem entOk_of {lo : Int} (hlo : 0 ≤ lo) {l : List Nod} (h : (List.range' 0 l.length).all (fun i => nodB lo l (at_ l i)) = true) : EntOk l := by
 intro i hi j hj
 have h1 := all_range.1 h i hi
 unfold nodB at h1
 split at h1
 ·simp only [freeB, Bool.and_eq_true, beq_iff_eq] at h1; omega
 ·simp only [Bool.and_eq_true] at h1
  have h2 := h1.2
  unfold kindB at h2
  split at h2
  ·simp only [Bool.and_eq_true, beq_iff_eq] at h2; omega
  ·split at h2
   ·rw [Bool.and_eq_true] at h2
    have h3 := all_range.1 h2.2 j hj
    simp only [entB, Bool.and_eq_true, inR_iff] at h3
    omega
   ·split at h2
    ·simp only [Bool.and_eq_true, beq_iff_eq] at h2; omega
    ·cases h2
def specCond (l : List Nod) (met : List Nat) (i : Nat) : Bool :=
 !(decide (i = 0) && decide ((linksTo l i l.length : Int) > 0)) && !(decide (i > 0) && ((at_ l i).kind == 2) && !((linksTo l i l.length : Int) == 1)) && !(!((at_ l i).kind == 0) && !met.contains i)
def good1 (l : List Nod) (room : Int) : Bool :=
 inR (l.length : Int) 1 40 && inR room 0 1000 && !decide ((dataSz l l.length : Int) > room) && ((at_ l 0).kind == 2) && (List.range' 0 l.length).all (fun i => nodB 1 l (at_ l i))
  && (List.range' 0 l.length).all (specCond l (metP l N 0 []))
theorem natInt_eq {a b : Nat} : ((a : Int) == (b : Int)) = decide (a = b) := by
 by_cases h : a = b
 ·subst h; simp
 ·rw [decide_eq_false h, beq_false_of_ne (by omega)]
theorem t_l3Good {l : List Nod} (hl : Small l) (hN : 1048580 < N) (f : Fl) (room : Int) (k : Bool → Option R) : g_zdl N (nodsV l) f room k = k (good1 N l room) := by
 rw [g_zdl_eq]
 unfold gb_zdl good1
 have hll := hl.len
 simp only [t_zdx, len_nods, t_l3Bytes N hl hN]
 cases h1 : inR (l.length : Int) 1 40 with
 | false => rfl
 | true =>
  obtain ⟨h2, h3⟩ := inR_iff.1 h1
  cases inR room 0 1000 with
  | false => rfl
  | true =>
   cases decide ((dataSz l l.length : Int) > room) with
   | true => rfl
   | false =>
    simp only [Bool.not_true, Bool.true_and, Bool.not_false]
    rw [nth_nods (show 0 < l.length by omega)]
    simp only [must_some, un_inod, bne]
    cases h4 : ((at_ l 0).kind == 2) with
    | false => rfl
    | true =>
     simp only [Bool.not_true, Bool.true_and]
     refine (loop_all (l := fun n i => l_zdl_0 N (nodsV l) _ (l.length : Int) (nodsV l) f room _ _ n (i : Int)) (len := l.length) (p := fun i => nodB 1 l (at_ l i)) (k0 := k false) (k1 := k ((List.range' 0 l.length).all (specCond l (metP l N 0 [])))) ?_ ?_ (show l.length < N by omega)).trans ?_
     ·intro n i hi _
      simp only [l_zdl_0, l_zdl_0_step, lt_true hi, Int.natCast_nonneg, if_true, Int.toNat_natCast, nth_nods hi, must_some, un_inod, t_l3Node N hll (hl.nod hi) hN]
      rw [wrap_succ (i := i) (by omega)]
      cases nodB 1 l (at_ l i) <;> rfl
     ·intro hall n
      have he : EntOk l := entOk_of (lo := 1) (by omega) (all_range.2 hall)
      have hd : Dist l.length [] := ⟨fun n => by simp, fun n h => by simp at h⟩
      have hmet := (met_ok he N 0 [] (by omega) hd (by simp; omega)).1
      have hml := hmet.dist.len
      simp only [l_zdl_0, l_zdl_0_step, Int.lt_irrefl, decide_false]
      refine (t_l3Met N hl he hN room N 0 [] _ (by omega) hd (by simp; omega) _).trans ?_
      refine (loop_all (l := fun n i => l_zdl_1 N (natsV (metP l N 0 [])) (nodsV l) _ (l.length : Int) (nodsV l) f room _ _ n (i : Int)) (len := l.length) (p := specCond l (metP l N 0 [])) (k0 := k false) (k1 := k true) ?_ ?_ (show l.length < N by omega)).trans ?_
      ·intro n i hi _
       simp only [l_zdl_1, l_zdl_1_step, lt_true hi, Int.natCast_nonneg, if_true, Int.toNat_natCast, nth_nods hi, must_some, un_inod, t_l3Links N hl hN, t_l1Has N (show (metP l N 0 []).length ≤ 1048576 by omega) hN]
       rw [wrap_succ (i := i) (by omega), show ((i : Int) == 0) = decide (i = 0) from natInt_eq (b := 0), show decide ((i : Int) > 0) = decide (i > 0) by by_cases h : i > 0 <;> simp [h]]
       simp only [bne]
       unfold specCond
       by_cases h0 : i = 0
       ·rw [decide_eq_true h0, decide_eq_false (p := i > 0) (by omega)]
        cases decide ((linksTo l i l.length : Int) > 0) <;> cases ((at_ l i).kind == 0) <;> cases (metP l N 0 []).contains i <;> rfl
       ·rw [decide_eq_false h0, decide_eq_true (p := i > 0) (by omega)]
        cases ((at_ l i).kind == 2) <;> cases ((linksTo l i l.length : Int) == 1) <;> cases ((at_ l i).kind == 0) <;> cases (metP l N 0 []).contains i <;> rfl
      ·intro _ n
       simp only [l_zdl_1, l_zdl_1_step, Int.lt_irrefl, decide_false]
      ·cases (List.range' 0 l.length).all (specCond l (metP l N 0 [])) <;> rfl
     ·cases (List.range' 0 l.length).all (fun i => nodB 1 l (at_ l i)) <;> rfl
def vec (len : Nat) (g : Nat → Nat) : List V := (List.range' 0 len).map fun x => V.int .i64 (g x : Nat)
theorem len_vec (len : Nat) (g : Nat → Nat) : (vec len g).length = len := by simp [vec]
theorem nth_vec {len : Nat} (g : Nat → Nat) {x : Nat} (h : x < len) : nth (vec len g) x = some (.int .i64 (g x : Nat)) := by
 rw [vec, nth_map0, nth_eq, List.getElem?_range' h]; simp
theorem set_vec {len : Nat} (g : Nat → Nat) {x : Nat} (h : x < len) (v : Nat) : setAt (vec len g) x (.int .i64 (v : Int)) = vec len (fun y => if y = x then v else g y) := by
 rw [setAt_eq]
 apply List.ext_getElem?
 intro j
 rw [List.getElem?_set, len_vec]
 unfold vec
 by_cases hj : j < len
 ·rw [List.getElem?_map, List.getElem?_map, List.getElem?_range' hj]
  by_cases hx : x = j
  ·subst hx; simp [h]
  ·rw [if_neg hx]
   simp only [Option.map_some]
   rw [if_neg (by omega)]
 ·rw [if_neg (by omega), List.getElem?_eq_none (by simp; omega), List.getElem?_eq_none (by simp; omega)]
theorem trim_vec (len : Nat) (g : Nat → Nat) (n : Nat) : (vec len g).map (trimV n) = vec len g := by unfold vec; rw [List.map_map]; rfl
theorem vec_congr {len : Nat} {g h : Nat → Nat} (e : ∀ x, x < len → g x = h x) : vec len g = vec len h := by
 unfold vec
 apply List.map_congr_left
 intro x hx
 rw [List.mem_range'] at hx
 obtain ⟨j, hj, rfl⟩ := hx
 rw [e _ (by omega)]
theorem links_0 {l : List Nod} (hl : Small l) (he : EntOk l) (hN : 1048580 < N) {i : Nat} (hi : i < l.length) (e_2 : List V) (f_3 f_7 : Fl) (x_4 x_5 : Int) (e_10 : List V) (f_11 : Fl) (x_12 x_14 x_15 x_16 x_17 x_18 : Int) (w_19 : ByteArray) (e_20 : List V) (f_21 : Fl) (k0 : List V → Option R) :
  l_zbn_0 N l.length e_2 f_3 x_4 x_5 (entsV (at_ l i).es) f_7 ((at_ l i).es.length : Int) e_10 f_11 x_12 x_14 x_15 x_16 x_17 x_18 w_19 e_20 f_21 k0 N 0 (vec l.length fun x => linksTo l x i) = k0 (vec l.length fun x => linksTo l x (i + 1)) := by
 have hes := hl.es i hi
 have hll := hl.len
 refine loop_run (l := fun n j => l_zbn_0 N l.length e_2 f_3 x_4 x_5 (entsV (at_ l i).es) f_7 ((at_ l i).es.length : Int) e_10 f_11 x_12 x_14 x_15 x_16 x_17 x_18 w_19 e_20 f_21 k0 n (j : Int) (vec l.length fun x => linksTo l x i + cntTo (at_ l i).es x j)) (len := (at_ l i).es.length) (k1 := k0 (vec l.length fun x => linksTo l x (i + 1))) ?_ ?_ (show (at_ l i).es.length < N by omega)
 ·intro n j hj
  obtain ⟨h1, h2⟩ := he.kid hi hj
  have h3 := linksTo_le hl (kid l i j) (Nat.le_of_lt hi)
  have h4 := cntTo_le (at_ l i).es (kid l i j) j
  simp only [l_zbn_0, l_zbn_0_step, lt_true hj, Int.natCast_nonneg, if_true, Int.toNat_natCast, nth_ents hj, must_some, un_ient, h2, Nat.zero_add, nth_vec _ h1]
  have hlt : ((kid l i j : Nat) : Int) < (l.length : Int) := by omega
  simp only [hlt, true_and, if_true]
  have hcell : ∀ (v : Int) (K : V → List V → Option R), asCons ((V.int .i64 v).cells.drop 0) K = K (.int .i64 v) [] := fun v K => rfl
  have hput : ∀ (u v : Int), putCells (.int .i64 u) 0 [.int .i64 v] = some (.int .i64 v) := fun u v => rfl
  simp only [hcell, asInt_int, hput]
  rw [wrap_succ (i := j) (by omega), wrap_succ (i := linksTo l (kid l i j) i + cntTo (at_ l i).es (kid l i j) j) (by omega)]
  rw [set_vec _ h1, trim_vec]
  congr 1
  apply vec_congr
  intro x hx
  have e : cntTo (at_ l i).es x (j + 1) = cntTo (at_ l i).es x j + ((at_ (at_ l i).es j).2 == (x : Int)).toNat := rfl
  by_cases hxk : x = kid l i j
  ·subst hxk
   rw [if_pos rfl, e, h2, beq_self_eq_true]; rfl
  ·rw [if_neg hxk, e, h2, beq_false_of_ne (by omega)]; rfl
 ·intro n
  simp only [l_zbn_0, l_zbn_0_step, Int.lt_irrefl, decide_false, trim_vec]
  rfl
theorem t_links {l : List Nod} (hl : Small l) (he : EntOk l) (hN : 1048580 < N) (f : Fl) (room : Int) (k : List V → Option R) : g_zbn N (nodsV l) f room k = k (vec l.length fun x => linksTo l x l.length) := by
 rw [g_zbn_eq]
 unfold gb_zbn
 have hll := hl.len
 rw [len_nods, if_pos ⟨by omega, rfl, by omega⟩, Int.toNat_natCast]
 have e0 : List.replicate l.length (V.int .i64 0) = vec l.length fun x => linksTo l x 0 := by
  unfold vec
  have : ∀ x : Nat, linksTo l x 0 = 0 := fun x => rfl
  simp only [this]
  rw [List.map_const']
  simp
 rw [e0]
 refine loop_run (l := fun n i => l_zbn_1 N l.length (nodsV l) _ (l.length : Int) (nodsV l) f room _ n (i : Int) (vec l.length fun x => linksTo l x i)) (len := l.length) (k1 := k (vec l.length fun x => linksTo l x l.length)) ?_ ?_ (show l.length < N by omega)
 ·intro n i hi
  simp only [l_zbn_1, l_zbn_1_step, lt_true hi, Int.natCast_nonneg, if_true, Int.toNat_natCast, nth_nods hi, must_some, un_inod, len_ents]
  rw [links_0 N hl he hN hi, trim_vec, wrap_succ (i := i) (by omega)]
 ·intro n
  simp only [l_zbn_1, l_zbn_1_step, Int.lt_irrefl, decide_false, trim_vec, List.drop_zero]
  rw [List.take_of_length_le (by rw [len_vec]; exact Nat.le_refl _), mapSome_self fun v hv => by
   unfold vec at hv
   obtain ⟨x, _, rfl⟩ := List.mem_map.1 hv
   rfl]
  have hp : (vec l.length fun x => linksTo l x l.length).all V.plain = true := by
   rw [List.all_eq_true]; intro v hv
   unfold vec at hv
   obtain ⟨x, _, rfl⟩ := List.mem_map.1 hv
   rfl
  simp only [hp, len_vec, Nat.zero_add, Nat.le_refl, decide_true, guardB]
end Go.VM.VL
set_option linter.unusedSimpArgs false
set_option linter.unusedVariables false
namespace Go.VM.VL
open Go
variable {R : Type} (N : Nat)
def isDir (l : List Nod) (x : Nat) : Bool := (at_ l x).kind == 2
def dirKids (l : List Nod) (x : Nat) : Nat → List Nat
 | 0 => []
 | j + 1 => dirKids l x j ++ (if isDir l (kid l x j) then [kid l x j] else [])
def allKids (l : List Nod) (x : Nat) : List Nat := dirKids l x (at_ l x).es.length
def bfs (l : List Nod) : Nat → List Nat
 | 0 => [0]
 | x + 1 => if x < (bfs l x).length then bfs l x ++ allKids l (at_ (bfs l x) x) else bfs l x
def linkOk (l : List Nod) (i : Nat) : Bool :=
 if (at_ l i).kind = 0 then true
 else if i = 0 then inR (linksTo l i l.length : Int) 0 0
 else if (at_ l i).kind = 2 then inR (linksTo l i l.length : Int) 1 1
 else inR (linksTo l i l.length : Int) 1 1152921504606846976
theorem dk_count {l : List Nod} (he : EntOk l) {x : Nat} (hx : x < l.length) (n : Nat) : ∀ j, j ≤ (at_ l x).es.length → (dirKids l x j).count n ≤ (if isDir l n then cntTo (at_ l x).es n j else 0)
 | 0, _ => by simp [dirKids]
 | j + 1, hj => by
  have ih := dk_count he hx n j (by omega)
  have hk := (he.kid hx (show j < (at_ l x).es.length by omega)).2
  have e : cntTo (at_ l x).es n (j + 1) = cntTo (at_ l x).es n j + ((at_ (at_ l x).es j).2 == (n : Int)).toNat := rfl
  rw [dirKids, List.count_append, e, hk]
  by_cases hn : kid l x j = n
  ·subst hn
   rw [beq_self_eq_true]
   cases hd : isDir l (kid l x j) with
   | true => rw [hd] at ih; simp at ih ⊢; omega
   | false => rw [hd] at ih; simp at ih ⊢; exact ih
  ·rw [beq_false_of_ne (by omega : ((kid l x j : Nat) : Int) ≠ (n : Int))]
   have : (if isDir l (kid l x j) = true then [kid l x j] else []).count n = 0 := by
    split
    ·rw [List.count_singleton, beq_false_of_ne hn]; rfl
    ·rfl
   rw [this]
   simpa using ih
theorem dk_mem {l : List Nod} {x n : Nat} : ∀ {j}, n ∈ dirKids l x j ↔ isDir l n = true ∧ ∃ i, i < j ∧ n = kid l x i
 | 0 => by simp [dirKids]
 | j + 1 => by
  rw [dirKids, List.mem_append, dk_mem (j := j)]
  constructor
  ·rintro (⟨h1, i, hi, rfl⟩ | h)
   ·exact ⟨h1, i, by omega, rfl⟩
   ·split at h
    ·rename_i hd
     obtain rfl := List.mem_singleton.1 h
     exact ⟨hd, j, by omega, rfl⟩
    ·simp at h
  ·rintro ⟨h1, i, hi, rfl⟩
   rcases Nat.lt_or_ge i j with h2 | h2
   ·exact .inl ⟨h1, i, h2, rfl⟩
   ·obtain rfl : i = j := by omega
    rw [if_pos h1]
    exact .inr (List.mem_singleton.2 rfl)
theorem isDir_lt {l : List Nod} {n : Nat} (h : isDir l n = true) : n < l.length := by
 rcases Nat.lt_or_ge n l.length with h1 | h1
 ·exact h1
 ·unfold isDir at_ at h
  rw [List.getD_eq_getElem?_getD, List.getElem?_eq_none h1] at h
  exact absurd h (by decide)
structure Linked (l : List Nod) : Prop where
 ent : EntOk l
 pos : 0 < l.length
 root : isDir l 0 = true
 link : ∀ i, i < l.length → linkOk l i = true
theorem Linked.le {l : List Nod} (h : Linked l) {n : Nat} (hn : isDir l n = true) : (if n = 0 then 1 else 0) + linksTo l n l.length ≤ 1 := by
 have h1 := h.link n (isDir_lt hn)
 unfold linkOk at h1
 have h2 : (at_ l n).kind = 2 := beq_iff_eq.1 hn
 rw [h2] at h1
 by_cases h0 : n = 0
 ·subst h0
  rw [if_neg (by decide), if_pos rfl, inR_iff] at h1
  rw [if_pos rfl]
  omega
 ·rw [if_neg (by decide), if_neg h0, if_pos rfl, inR_iff] at h1
  rw [if_neg h0]; omega
theorem sumL_append (g : Nat → Nat) : ∀ s t : List Nat, sumL g (s ++ t) = sumL g s + sumL g t
 | [], t => by simp [sumL]
 | a :: s, t => by show g a + sumL g (s ++ t) = g a + sumL g s + sumL g t; rw [sumL_append g s t]; omega
theorem Dist.take {len : Nat} {s : List Nat} (h : Dist len s) (x : Nat) : Dist len (s.take x) := by
 refine ⟨fun n => ?_, fun n hn => h.lt n (List.mem_of_mem_take hn)⟩
 have e : (s.take x).count n + (s.drop x).count n = s.count n := by rw [← List.count_append, List.take_append_drop]
 have := h.one n
 omega
theorem take_at {s : List Nat} {x : Nat} (h : x < s.length) : s.take (x + 1) = s.take x ++ [at_ s x] := by
 rw [List.take_succ_eq_append_getElem h, at_get h]
structure BfsOk (l : List Nod) (x : Nat) : Prop where
 dist : Dist l.length (bfs l x)
 dir : ∀ n ∈ bfs l x, isDir l n = true ∧ Reach l n
 cnt : x ≤ (bfs l x).length → ∀ n, (bfs l x).count n = (if n = 0 then 1 else 0) + sumL (fun j => (allKids l j).count n) ((bfs l x).take x)
 kids : ∀ i, i < x → i < (bfs l x).length → ∀ n ∈ allKids l (at_ (bfs l x) i), n ∈ bfs l x
 root : 0 ∈ bfs l x
theorem at_append {α : Type} [Inhabited α] (s t : List α) {i : Nat} (h : i < s.length) : at_ (s ++ t) i = at_ s i := by
 rw [at_get h, at_get (by rw [List.length_append]; omega), List.getElem_append_left h]
theorem bfs_ok {l : List Nod} (h : Linked l) : ∀ x, BfsOk l x
 | 0 => by
  refine ⟨⟨fun n => ?_, fun n hn => ?_⟩, fun n hn => ?_, fun _ n => ?_, fun i hi => absurd hi (by omega), List.mem_singleton.2 rfl⟩
  ·rw [bfs, List.count_singleton]; split <;> omega
  ·rw [bfs] at hn; obtain rfl := List.mem_singleton.1 hn; exact h.pos
  ·rw [bfs] at hn; obtain rfl := List.mem_singleton.1 hn; exact ⟨h.root, Reach.root⟩
  ·rw [bfs, List.count_singleton]
   simp only [List.take_zero, sumL]
   by_cases hn : n = 0
   ·subst hn; rfl
   ·rw [if_neg hn, beq_false_of_ne (Ne.symm hn)]; rfl
 | x + 1 => by
  have ih := bfs_ok h x
  by_cases hx : x < (bfs l x).length
  ·have e : bfs l (x + 1) = bfs l x ++ allKids l (at_ (bfs l x) x) := by rw [bfs, if_pos hx]
   have hm : at_ (bfs l x) x ∈ bfs l x := at_mem hx
   have ha := ih.dist.lt _ hm
   have hcnt : ∀ n, (bfs l (x + 1)).count n = (if n = 0 then 1 else 0) + sumL (fun j => (allKids l j).count n) ((bfs l x).take (x + 1)) := fun n => by
    rw [e, List.count_append, ih.cnt (by omega) n, take_at hx, sumL_append]
    simp only [sumL]; omega
   have hone : ∀ n, (bfs l (x + 1)).count n ≤ 1 := fun n => by
    rw [hcnt n]
    have h1 := (ih.dist.take (x + 1)).sum fun j => (allKids l j).count n
    have h2 : sumTo (fun j => (allKids l j).count n) l.length ≤ if isDir l n then linksTo l n l.length else 0 := by
     have : ∀ m, m ≤ l.length → sumTo (fun j => (allKids l j).count n) m ≤ if isDir l n then linksTo l n m else 0 := by
      intro m
      induction m with
      | zero => intro _; exact Nat.zero_le _
      | succ m ihm =>
       intro hm2
       have i1 := ihm (by omega)
       have i2 := dk_count h.ent (show m < l.length by omega) n _ (Nat.le_refl _)
       show sumTo _ m + (allKids l m).count n ≤ _
       unfold allKids
       unfold allKids at i1
       split
       ·rename_i hd
        rw [if_pos hd] at i1 i2
        show _ ≤ linksTo l n m + cntTo (at_ l m).es n (at_ l m).es.length
        omega
       ·rename_i hd
        rw [if_neg hd] at i1 i2
        omega
     exact this _ (Nat.le_refl _)
    cases hd : isDir l n with
    | true =>
     have h3 := h.le hd
     rw [hd, if_pos rfl] at h2
     omega
    | false =>
     rw [hd] at h2
     simp only [Bool.false_eq_true, if_false] at h2
     split <;> omega
   have hnew : ∀ n ∈ bfs l (x + 1), isDir l n = true ∧ Reach l n := fun n hn => by
    rw [e, List.mem_append] at hn
    rcases hn with hn | hn
    ·exact ih.dir n hn
    ·obtain ⟨h1, i, hi, rfl⟩ := dk_mem.1 hn
     exact ⟨h1, Reach.step (ih.dir _ hm).2 ha hi⟩
   refine ⟨⟨hone, fun n hn => isDir_lt (hnew n hn).1⟩, hnew, fun _ n => ?_, fun i hi hil n hn => ?_, ?_⟩
   ·rw [hcnt n, e, List.take_append_of_le_length (by omega)]
   ·rcases Nat.lt_or_ge i x with h1 | h1
    ·rw [e, at_append _ _ (by omega)] at hn
     rw [e, List.mem_append]
     exact .inl (ih.kids i h1 (by omega) n hn)
    ·obtain rfl : i = x := by omega
     rw [e, at_append _ _ hx] at hn
     rw [e, List.mem_append]
     exact .inr hn
   ·rw [e, List.mem_append]; exact .inl ih.root
  ·have e : bfs l (x + 1) = bfs l x := by rw [bfs, if_neg hx]
   exact ⟨by rw [e]; exact ih.dist, by rw [e]; exact ih.dir, fun h1 => by rw [e] at h1; omega, fun i hi hil n hn => by
    rw [e] at hil hn ⊢
    exact ih.kids i (by omega) hil n hn, by rw [e]; exact ih.root⟩
theorem bfs_end {l : List Nod} (h : Linked l) : ∃ X, X ≤ l.length ∧ (bfs l X).length ≤ X ∧ (∀ x, x < X → x < (bfs l x).length) ∧ bfs l l.length = bfs l X := by
 have hlen : ∀ x, (bfs l x).length ≤ l.length := fun x => (bfs_ok h x).dist.len
 have : ∀ d x, x + d = l.length → (∀ y, y < x → y < (bfs l y).length) → ∃ X, X ≤ l.length ∧ (bfs l X).length ≤ X ∧ (∀ y, y < X → y < (bfs l y).length) := by
  intro d
  induction d with
  | zero => intro x hx hy; exact ⟨x, by omega, by have := hlen x; omega, hy⟩
  | succ d ih =>
   intro x hx hy
   by_cases hc : x < (bfs l x).length
   ·exact ih (x + 1) (by omega) fun y h2 => by
     rcases Nat.lt_or_ge y x with h3 | h3
     ·exact hy y h3
     ·obtain rfl : y = x := by omega
      exact hc
   ·exact ⟨x, by omega, by omega, hy⟩
 obtain ⟨X, h1, h2, h3⟩ := this l.length 0 (by omega) fun y hy => by omega
 refine ⟨X, h1, h2, h3, ?_⟩
 have : ∀ d, bfs l (X + d) = bfs l X := by
  intro d
  induction d with
  | zero => rfl
  | succ d ih =>
   rw [← Nat.add_assoc, bfs, ih, if_neg (by omega)]
 rw [← this (l.length - X), show X + (l.length - X) = l.length by omega]
theorem bfs_closed {l : List Nod} (h : Linked l) {a n : Nat} (ha : a ∈ bfs l l.length) (hn : n ∈ allKids l a) : n ∈ bfs l l.length := by
 obtain ⟨X, h1, h2, h3, h4⟩ := bfs_end h
 rw [h4] at ha ⊢
 obtain ⟨i, hi, rfl⟩ := List.getElem_of_mem ha
 rw [← at_get hi] at hn
 exact (bfs_ok h X).kids i (by omega) hi n hn
end Go.VM.VL
set_option linter.unusedSimpArgs false
set_option linter.unusedVariables false
namespace Go.VM.VL
open Go
variable {R : Type} (N : Nat)
def good0 (l : List Nod) (room : Int) : Bool :=
 inR (l.length : Int) 1 40 && inR room 0 1000 && ((at_ l 0).kind == 2) && (List.range' 0 l.length).all (fun i => nodB 0 l (at_ l i)) && !decide ((dataSz l l.length : Int) > room)
  && (List.range' 0 l.length).all (linkOk l) && (List.range' 0 l.length).all (fun i => !isDir l i || (bfs l l.length).contains i)
def seenV (len : Nat) (s : List Nat) : List V := (List.range' 0 len).map fun x => V.bool (s.contains x)
theorem len_seen (len : Nat) (s : List Nat) : (seenV len s).length = len := by simp [seenV]
theorem nth_seen {len : Nat} (s : List Nat) {x : Nat} (h : x < len) : nth (seenV len s) x = some (.bool (s.contains x)) := by
 rw [seenV, nth_map0, nth_eq, List.getElem?_range' h]; simp
theorem set_seen {len : Nat} (s : List Nat) {x : Nat} (h : x < len) : setAt (seenV len s) x (.bool true) = seenV len (s ++ [x]) := by
 rw [setAt_eq]
 apply List.ext_getElem?
 intro j
 rw [List.getElem?_set, len_seen]
 unfold seenV
 by_cases hj : j < len
 ·rw [List.getElem?_map, List.getElem?_map, List.getElem?_range' hj]
  by_cases hx : x = j
  ·subst hx; simp [h]
  ·rw [if_neg hx]
   simp only [Option.map_some, Nat.zero_add, Nat.one_mul]
   congr 2
   have : ∀ t : List Nat, t.contains j = decide (j ∈ t) := fun t => by
    rw [Bool.eq_iff_iff, List.contains_iff_mem, decide_eq_true_eq]
   rw [this, this]
   by_cases hm : j ∈ s
   ·simp [hm]
   ·simp [hm]; omega
 ·rw [if_neg (by omega), List.getElem?_eq_none (by simp; omega), List.getElem?_eq_none (by simp; omega)]
theorem trim_seen (len : Nat) (s : List Nat) (n : Nat) : (seenV len s).map (trimV n) = seenV len s := by unfold seenV; rw [List.map_map]; rfl
theorem allKids_notin {l : List Nod} (h : Linked l) {x : Nat} (hx : x < (bfs l x).length) {n : Nat} (hn : n ∈ allKids l (at_ (bfs l x) x)) : n ∉ bfs l x := by
 intro hm
 have h1 := (bfs_ok h (x + 1)).dist.one n
 rw [bfs, if_pos hx, List.count_append] at h1
 have h2 := List.count_pos_iff.2 hm
 have h3 := List.count_pos_iff.2 hn
 omega
theorem GoodFs_2_l {l : List Nod} (hl : Small l) (h : Linked l) (hN : 1048580 < N) {x : Nat} (hx : x < (bfs l x).length) (z : Int) (f g : Fl) (room : Int) (k0 : List V → List V → Option R) :
  l_zcu_2 N l.length z (entsV (at_ l (at_ (bfs l x) x)).es) f ((at_ l (at_ (bfs l x) x)).es.length : Int) (nodsV l) g room k0 N (natsV (bfs l x)) 0 (seenV l.length ((bfs l x).take (x + 1))) =
   k0 (natsV (bfs l (x + 1))) (seenV l.length ((bfs l x).take (x + 1))) := by
 have hll := hl.len
 have hb := bfs_ok h x
 have hb1 := (bfs_ok h (x + 1)).dist.len
 have e1 : bfs l (x + 1) = bfs l x ++ allKids l (at_ (bfs l x) x) := by rw [bfs, if_pos hx]
 rw [e1] at hb1
 have ha := hb.dist.lt _ (at_mem hx)
 have hes := hl.es _ ha
 have e0 : natsV (bfs l x) = natsV (bfs l x ++ dirKids l (at_ (bfs l x) x) 0) := by rw [dirKids, List.append_nil]
 conv => lhs; rw [e0]
 refine loop_run (l := fun n j => l_zcu_2 N l.length z (entsV (at_ l (at_ (bfs l x) x)).es) f ((at_ l (at_ (bfs l x) x)).es.length : Int) (nodsV l) g room k0 n (natsV (bfs l x ++ dirKids l (at_ (bfs l x) x) j)) (j : Int) (seenV l.length ((bfs l x).take (x + 1)))) (len := (at_ l (at_ (bfs l x) x)).es.length) (k1 := k0 (natsV (bfs l (x + 1))) (seenV l.length ((bfs l x).take (x + 1)))) ?_ ?_ (show (at_ l (at_ (bfs l x) x)).es.length < N by omega)
 ·intro n j hj
  obtain ⟨h1, h2⟩ := h.ent.kid ha hj
  simp only [l_zcu_2, l_zcu_2_step, lt_true hj, Int.natCast_nonneg, if_true, Int.toNat_natCast, nth_ents hj, must_some, un_ient, h2, nth_nods h1, un_inod, trim_seen, Nat.zero_add, nth_seen _ h1]
  have hlt : ((kid l (at_ (bfs l x) x) j : Nat) : Int) < (l.length : Int) := by omega
  simp only [hlt, true_and, if_true]
  rw [wrap_succ (i := j) (by omega), dirKids, show ((at_ l (kid l (at_ (bfs l x) x) j)).kind == 2) = isDir l (kid l (at_ (bfs l x) x) j) from rfl]
  cases hd : isDir l (kid l (at_ (bfs l x) x) j) with
  | false => simp
  | true =>
   have hin : kid l (at_ (bfs l x) x) j ∈ allKids l (at_ (bfs l x) x) := dk_mem.2 ⟨hd, j, hj, rfl⟩
   have hns := allKids_notin h hx hin
   have hc : ((bfs l x).take (x + 1)).contains (kid l (at_ (bfs l x) x) j) = false := by
    rw [Bool.eq_false_iff, ne_eq, List.contains_iff_mem]
    exact fun hm => hns (List.mem_of_mem_take hm)
   have hcell : ∀ (v : Bool) (K : V → List V → Option R), asCons ((V.bool v).cells.drop 0) K = K (.bool v) [] := fun v K => rfl
   simp only [hcell, asBool_bool, hc, Bool.not_false, if_true]
   have hlen : (bfs l x ++ dirKids l (at_ (bfs l x) x) j).length ≤ 1048576 := by
    have : (dirKids l (at_ (bfs l x) x) j).length ≤ (at_ l (at_ (bfs l x) x)).es.length := by
     have : ∀ m, (dirKids l (at_ (bfs l x) x) m).length ≤ m := by
      intro m
      induction m with
      | zero => exact Nat.le_refl _
      | succ m ih =>
       rw [dirKids, List.length_append]
       split <;> simp <;> omega
     have := this j
     omega
    rw [List.length_append] at hb1 ⊢
    have hbl := hb.dist.len
    have hpre : (dirKids l (at_ (bfs l x) x) j).length ≤ (allKids l (at_ (bfs l x) x)).length := by
     have : ∀ m d, (dirKids l (at_ (bfs l x) x) m).length ≤ (dirKids l (at_ (bfs l x) x) (m + d)).length := by
      intro m d
      induction d with
      | zero => exact Nat.le_refl _
      | succ d ih =>
       rw [← Nat.add_assoc, dirKids, List.length_append]; omega
     have := this j ((at_ l (at_ (bfs l x) x)).es.length - j)
     rwa [show j + ((at_ l (at_ (bfs l x) x)).es.length - j) = (at_ l (at_ (bfs l x) x)).es.length by omega] at this
    omega
   rw [len_nats, if_pos (by omega)]
   rw [show ([.int .i64 ((kid l (at_ (bfs l x) x) j : Nat) : Int)] : List V) = natsV [kid l (at_ (bfs l x) x) j] from rfl, natsV_app, List.append_assoc]
 ·intro n
  simp only [l_zcu_2, l_zcu_2_step, Int.lt_irrefl, decide_false, trim_seen]
  rw [e1]; rfl
theorem GoodFs_3_l {l : List Nod} (hl : Small l) (h : Linked l) (hN : 1048580 < N) (f : Fl) (room : Int) (k0 : List V → Option R) :
  l_zcu_3 N l.length (nodsV l) f room k0 N [.int .i64 0] 0 (List.replicate l.length (.bool false)) = k0 (seenV l.length (bfs l l.length)) := by
 have hll := hl.len
 obtain ⟨X, h1, h2, h3, h4⟩ := bfs_end h
 have e0 : List.replicate l.length (V.bool false) = seenV l.length ((bfs l 0).take 0) := by
  unfold seenV
  simp [List.map_const']
 rw [e0]
 refine loop_run (l := fun n x => l_zcu_3 N l.length (nodsV l) f room k0 n (natsV (bfs l x)) (x : Int) (seenV l.length ((bfs l x).take x))) (len := X) (k1 := k0 (seenV l.length (bfs l l.length))) ?_ ?_ (show X < N by omega)
 ·intro n x hx
  have hxl := h3 x hx
  have hm : at_ (bfs l x) x ∈ bfs l x := at_mem hxl
  have ha := (bfs_ok h x).dist.lt _ hm
  have hput : ∀ b : Bool, putCells (.bool b) 0 [.bool true] = some (.bool true) := fun b => rfl
  have hlt : ((at_ (bfs l x) x : Nat) : Int) < (l.length : Int) := by omega
  simp only [l_zcu_3, l_zcu_3_step, len_nats, lt_true hxl, Int.natCast_nonneg, if_true, Int.toNat_natCast, nth_nats hxl, must_some, asInt_int, Nat.zero_add, nth_seen _ ha, hput, hlt, true_and, nth_nods ha, un_inod, set_seen _ ha, len_ents]
  rw [← take_at hxl, GoodFs_2_l N hl h hN hxl, wrap_succ (i := x) (by omega)]
  congr 2
  rw [bfs, if_pos hxl, List.take_append_of_le_length (by omega)]
 ·intro n
  simp only [l_zcu_3, l_zcu_3_step, len_nats]
  rw [decide_eq_false (by omega), h4, List.take_of_length_le h2]
theorem linked_of {l : List Nod} (h0 : 0 < l.length) (hk : ((at_ l 0).kind == 2) = true) (hn : (List.range' 0 l.length).all (fun i => nodB 0 l (at_ l i)) = true) (hlk : (List.range' 0 l.length).all (linkOk l) = true) : Linked l :=
 ⟨entOk_of (Int.le_refl 0) hn, h0, hk, fun i hi => all_range.1 hlk i hi⟩
theorem t_GoodFs {l : List Nod} (hl : Small l) (hN : 1048580 < N) (f : Fl) (room : Int) (k : Bool → Option R) : g_zcu N (nodsV l) f room k = k (good0 l room) := by
 rw [g_zcu_eq]
 unfold gb_zcu good0
 rw [g_zcz_eq]
 unfold gb_zcz
 have hll := hl.len
 simp only [t_zdb, len_nods]
 cases h1 : inR (l.length : Int) 1 40 with
 | false => rfl
 | true =>
  obtain ⟨h2, h3⟩ := inR_iff.1 h1
  cases inR room 0 1000 with
  | false => rfl
  | true =>
   simp only [Bool.not_true, Bool.true_and]
   rw [nth_nods (show 0 < l.length by omega)]
   simp only [must_some, un_inod, bne]
   cases h4 : ((at_ l 0).kind == 2) with
   | false => rfl
   | true =>
    simp only [Bool.not_true, Bool.true_and]
    refine (loop_all (l := fun n i => l_zcu_0 N (nodsV l) _ (l.length : Int) (nodsV l) f room _ _ n (i : Int)) (len := l.length) (p := fun i => nodB 0 l (at_ l i)) (k0 := k false) (k1 := k (!decide ((dataSz l l.length : Int) > room) && (List.range' 0 l.length).all (linkOk l) && (List.range' 0 l.length).all (fun i => !isDir l i || (bfs l l.length).contains i))) ?_ ?_ (show l.length < N by omega)).trans ?_
    ·intro n i hi _
     simp only [l_zcu_0, l_zcu_0_step, lt_true hi, Int.natCast_nonneg, if_true, Int.toNat_natCast, nth_nods hi, must_some, un_inod, t_isNode N hll (hl.nod hi) hN]
     rw [wrap_succ (i := i) (by omega)]
     cases nodB 0 l (at_ l i) <;> rfl
    ·intro hall n
     have he : EntOk l := entOk_of (Int.le_refl 0) (all_range.2 hall)
     simp only [l_zcu_0, l_zcu_0_step, Int.lt_irrefl, decide_false, t_bytesIn N hl hN]
     cases decide ((dataSz l l.length : Int) > room) with
     | true => rfl
     | false =>
      simp only [t_links N hl he hN, Bool.not_false, Bool.true_and]
      refine (loop_all (l := fun n i => l_zcu_1 N (vec l.length fun x => linksTo l x l.length) (nodsV l) _ (l.length : Int) (nodsV l) f room _ _ n (i : Int)) (len := l.length) (p := linkOk l) (k0 := k false) (k1 := k ((List.range' 0 l.length).all (fun i => !isDir l i || (bfs l l.length).contains i))) ?_ ?_ (show l.length < N by omega)).trans ?_
      ·intro n i hi _
       simp only [l_zcu_1, l_zcu_1_step, lt_true hi, Int.natCast_nonneg, if_true, Int.toNat_natCast, nth_nods hi, must_some, un_inod, nth_vec _ hi, asInt_int, t_zdb, bne]
       rw [wrap_succ (i := i) (by omega), show ((i : Int) == 0) = decide (i = 0) from natInt_eq (b := 0)]
       unfold linkOk
       by_cases hk : (at_ l i).kind = 0
       ·rw [if_pos hk, hk]
        cases decide (i = 0) <;> rfl
       ·rw [if_neg hk, beq_false_of_ne hk]
        by_cases h0 : i = 0
        ·subst h0
         rw [if_pos rfl]
         show (match !inR (linksTo l 0 l.length : Int) 0 0 with | true => k false | false => _) = _
         cases inR (linksTo l 0 l.length : Int) 0 0 <;> rfl
        ·rw [if_neg h0, decide_eq_false h0]
         have hm : (if (1 : Int) < (i : Int) then (1 : Int) else (i : Int)) = 1 := by split <;> omega
         simp only [hm]
         by_cases hd : (at_ l i).kind = 2
         ·rw [if_pos hd, beq_iff_eq.2 hd]
          cases inR (linksTo l i l.length : Int) 1 1 <;> rfl
         ·rw [if_neg hd, beq_false_of_ne hd]
          cases inR (linksTo l i l.length : Int) 1 1152921504606846976 <;> rfl
      ·intro hlk n
       have hL : Linked l := linked_of (by omega) h4 (all_range.2 hall) (all_range.2 hlk)
       simp only [l_zcu_1, l_zcu_1_step, Int.lt_irrefl, decide_false]
       rw [if_pos ⟨by omega, trivial, by omega⟩, Int.toNat_natCast, GoodFs_3_l N hl hL hN]
       refine (loop_all (l := fun n i => l_zcu_4 N l.length (nodsV l) _ (l.length : Int) (nodsV l) f room _ _ n (i : Int) (seenV l.length (bfs l l.length))) (len := l.length) (p := fun i => !isDir l i || (bfs l l.length).contains i) (k0 := k false) (k1 := k true) ?_ ?_ (show l.length < N by omega)).trans ?_
       ·intro n i hi _
        have hcell : ∀ (v : Bool) (K : V → List V → Option R), asCons ((V.bool v).cells.drop 0) K = K (.bool v) [] := fun v K => rfl
        have hlt : (i : Int) < (l.length : Int) := by omega
        simp only [l_zcu_4, l_zcu_4_step, lt_true hi, Int.natCast_nonneg, if_true, Int.toNat_natCast, nth_nods hi, must_some, un_inod, Nat.zero_add, nth_seen _ hi, hcell, asBool_bool, hlt, true_and, trim_seen]
        rw [wrap_succ (i := i) (by omega), show ((at_ l i).kind == 2) = isDir l i from rfl]
        cases isDir l i <;> cases (bfs l l.length).contains i <;> rfl
       ·intro _ n
        simp only [l_zcu_4, l_zcu_4_step, Int.lt_irrefl, decide_false]
       ·cases (List.range' 0 l.length).all (fun i => !isDir l i || (bfs l l.length).contains i) <;> rfl
      ·cases (List.range' 0 l.length).all (linkOk l) <;> rfl
    ·cases (List.range' 0 l.length).all (fun i => nodB 0 l (at_ l i)) <;> rfl
end Go.VM.VL
set_option linter.unusedSimpArgs false
set_option linter.unusedVariables false
namespace Go.VM.VL
open Go
variable {R : Type} (N : Nat)
theorem nod_dir {lo : Int} {l : List Nod} {n : Nod} (h : nodB lo l n = true) (he : 0 < n.es.length) : n.kind = 2 := by
 unfold nodB at h
 split at h
 ·simp only [freeB, Bool.and_eq_true, beq_iff_eq] at h; omega
 ·simp only [Bool.and_eq_true] at h
  have h2 := h.2
  unfold kindB at h2
  split at h2
  ·simp only [Bool.and_eq_true, beq_iff_eq] at h2; omega
  ·split at h2
   ·rename_i h3; exact h3
   ·split at h2
    ·simp only [Bool.and_eq_true, beq_iff_eq] at h2; omega
    ·cases h2
theorem ent_mono {l : List Nod} {es : List Ent} {j : Nat} (h : entB 1 l es j = true) : entB 0 l es j = true := by
 simp only [entB, Bool.and_eq_true, inR_iff] at h ⊢
 exact ⟨h.1, ⟨by omega, h.2.1.2⟩, h.2.2⟩
theorem ent_one {l : List Nod} {es : List Ent} {j : Nat} (h : entB 0 l es j = true) (h0 : (at_ es j).2 ≠ 0) : entB 1 l es j = true := by
 simp only [entB, Bool.and_eq_true, inR_iff] at h ⊢
 exact ⟨h.1, ⟨by omega, h.2.1.2⟩, h.2.2⟩
theorem nod_ents {a b : Int} {l : List Nod} {n : Nod} (h : nodB a l n = true) (he : ∀ j, j < n.es.length → entB a l n.es j = true → entB b l n.es j = true) : nodB b l n = true := by
 unfold nodB at h ⊢
 split at h
 ·rename_i h0; rw [if_pos h0]; exact h
 ·rename_i h0
  rw [if_neg h0]
  rw [Bool.and_eq_true] at h ⊢
  refine ⟨h.1, ?_⟩
  have h2 := h.2
  unfold kindB at h2 ⊢
  split at h2
  ·rename_i h3; rw [if_pos h3]; exact h2
  ·rename_i h3
   rw [if_neg h3]
   split at h2
   ·rename_i h4
    rw [if_pos h4]
    rw [Bool.and_eq_true] at h2 ⊢
    exact ⟨h2.1, all_range.2 fun j hj => he j hj (all_range.1 h2.2 j hj)⟩
   ·rename_i h4
    rw [if_neg h4]; exact h2
theorem cntTo_pos (es : List Ent) (x : Int) : ∀ {n}, 0 < cntTo es x n ↔ ∃ j, j < n ∧ (at_ es j).2 = x
 | 0 => by simp [cntTo, sumTo]
 | n + 1 => by
  have ih := cntTo_pos es x (n := n)
  have e : cntTo es x (n + 1) = cntTo es x n + ((at_ es n).2 == x).toNat := rfl
  rw [e]
  constructor
  ·intro h
   by_cases h1 : 0 < cntTo es x n
   ·obtain ⟨j, hj, h2⟩ := ih.1 h1
    exact ⟨j, by omega, h2⟩
   ·cases hb : ((at_ es n).2 == x) with
    | true => exact ⟨n, by omega, beq_iff_eq.1 hb⟩
    | false => rw [hb] at h; simp at h; omega
  ·rintro ⟨j, hj, h2⟩
   rcases Nat.lt_or_ge j n with h3 | h3
   ·have := ih.2 ⟨j, h3, h2⟩; omega
   ·obtain rfl : j = n := by omega
    rw [beq_iff_eq.2 h2]; simp
theorem links_pos (l : List Nod) (x : Int) : ∀ {n}, 0 < linksTo l x n ↔ ∃ i, i < n ∧ ∃ j, j < (at_ l i).es.length ∧ (at_ (at_ l i).es j).2 = x
 | 0 => by simp [linksTo, sumTo]
 | n + 1 => by
  have ih := links_pos l x (n := n)
  have e : linksTo l x (n + 1) = linksTo l x n + cntTo (at_ l n).es x (at_ l n).es.length := rfl
  rw [e]
  constructor
  ·intro h
   by_cases h1 : 0 < linksTo l x n
   ·obtain ⟨i, hi, h2⟩ := ih.1 h1
    exact ⟨i, by omega, h2⟩
   ·exact ⟨n, by omega, (cntTo_pos _ _).1 (by omega)⟩
  ·rintro ⟨i, hi, h2⟩
   rcases Nat.lt_or_ge i n with h3 | h3
   ·have := ih.2 ⟨i, h3, h2⟩; omega
   ·obtain rfl : i = n := by omega
    have := (cntTo_pos (at_ l i).es x).2 h2; omega
theorem reach_lt {l : List Nod} (he : EntOk l) (h0 : 0 < l.length) {i : Nat} (h : Reach l i) : i < l.length := by
 cases h with
 | root => exact h0
 | step _ hx hj => exact (he.kid hx hj).1
theorem reach_link {l : List Nod} (he : EntOk l) {i : Nat} (h : Reach l i) (h0 : i ≠ 0) : 0 < linksTo l i l.length := by
 cases h with
 | root => exact absurd rfl h0
 | @step x j _ hx hj => exact (links_pos l _).2 ⟨x, hx, j, hj, (he.kid hx hj).2⟩
theorem reach_met {l : List Nod} (he : EntOk l) (h0 : 0 < l.length) (hN : l.length < N) {i : Nat} : Reach l i ↔ i ∈ metP l N 0 [] := by
 have hd : Dist l.length [] := ⟨fun n => by simp, fun n h => by simp at h⟩
 obtain ⟨h1, h2, h3⟩ := met_ok he N 0 [] h0 hd (by simp; omega)
 constructor
 ·intro h
  induction h with
  | root => exact h2
  | step _ hx hj ih => exact h1.closed _ ih (by simp) _ hj
 ·intro h
  exact h3 (fun _ n hn => by simp at hn) Reach.root i h
theorem good_eq {l : List Nod} (hl : Small l) (hN : 1048580 < N) (room : Int) : good1 N l room = good0 l room := by
 have hll := hl.len
 rw [Bool.eq_iff_iff]
 unfold good1 good0
 simp only [Bool.and_eq_true, all_range]
 constructor
 ·rintro ⟨⟨⟨⟨⟨h1, h2⟩, h3⟩, h4⟩, h5⟩, h6⟩
  have hpos : 0 < l.length := by have := (inR_iff.1 h1).1; omega
  have h5' : ∀ i, i < l.length → nodB 0 l (at_ l i) = true := fun i hi => nod_ents (h5 i hi) fun j _ h => ent_mono h
  have he : EntOk l := entOk_of (Int.le_refl 0) (all_range.2 h5')
  have hmet := fun {i} => reach_met N he hpos (by omega) (i := i)
  have h6' : ∀ i, i < l.length → (i = 0 → linksTo l i l.length = 0) ∧ (0 < i → isDir l i = true → linksTo l i l.length = 1) ∧ ((at_ l i).kind ≠ 0 → Reach l i) := by
   intro i hi
   have := h6 i hi
   unfold specCond at this
   simp only [Bool.and_eq_true, Bool.not_eq_true', Bool.and_eq_false_iff, decide_eq_false_iff_not, beq_eq_false_iff_ne, Bool.not_eq_false', beq_iff_eq] at this
   obtain ⟨⟨a1, a2⟩, a3⟩ := this
   refine ⟨fun h0 => ?_, fun h0 hd => ?_, fun hk => ?_⟩
   ·rcases a1 with a1 | a1
    ·exact absurd h0 a1
    ·omega
   ·rcases a2 with (a2 | a2) | a2
    ·exact absurd h0 a2
    ·exact absurd (beq_iff_eq.1 hd) a2
    ·omega
   ·rcases a3 with a3 | a3
    ·exact absurd a3 hk
    ·exact hmet.2 (List.contains_iff_mem.1 a3)
  have hlk : ∀ i, i < l.length → linkOk l i = true := by
   intro i hi
   obtain ⟨a1, a2, a3⟩ := h6' i hi
   unfold linkOk
   split
   ·rfl
   ·rename_i hk
    split
    ·rename_i h0; rw [inR_iff]; have := a1 h0; omega
    ·rename_i h0
     split
     ·rename_i hd; rw [inR_iff]; have := a2 (by omega) (beq_iff_eq.2 hd); omega
     ·rw [inR_iff]
      have b1 := reach_link he (a3 hk) h0
      have b2 := linksTo_le hl i (Nat.le_refl l.length)
      omega
  have hL : Linked l := ⟨he, hpos, h4, hlk⟩
  refine ⟨⟨⟨⟨⟨⟨h1, h2⟩, h4⟩, h5'⟩, h3⟩, hlk⟩, fun i hi => ?_⟩
  cases hd : isDir l i with
  | false => rfl
  | true =>
   have hk : (at_ l i).kind ≠ 0 := by
    have := beq_iff_eq.1 hd
    omega
   have hr := (h6' i hi).2.2 hk
   have : ∀ x, Reach l x → isDir l x = true → x ∈ bfs l l.length := by
    intro x hx
    induction hx with
    | root => intro _; exact (bfs_ok hL _).root
    | @step y j hy hyl hj ih =>
     intro hd2
     have hyd : isDir l y = true := beq_iff_eq.2 (nod_dir (h5' y hyl) (by omega))
     exact bfs_closed hL (ih hyd) (dk_mem.2 ⟨hd2, j, hj, rfl⟩)
   rw [Bool.not_true, Bool.false_or, List.contains_iff_mem]
   exact this i hr hd
 ·rintro ⟨⟨⟨⟨⟨⟨h1, h2⟩, h4⟩, h5⟩, h3⟩, hlk⟩, h7⟩
  have hpos : 0 < l.length := by have := (inR_iff.1 h1).1; omega
  have he : EntOk l := entOk_of (Int.le_refl 0) (all_range.2 h5)
  have hL : Linked l := ⟨he, hpos, h4, hlk⟩
  have hmet := fun {i} => reach_met N he hpos (by omega) (i := i)
  have hroot : (at_ l 0).kind = 2 := beq_iff_eq.1 h4
  have hl0 : linksTo l 0 l.length = 0 := by
   have := hL.le (n := 0) h4
   rw [if_pos rfl] at this
   have e : linksTo l ((0 : Nat) : Int) l.length = linksTo l 0 l.length := rfl
   omega
  have h5' : ∀ i, i < l.length → nodB 1 l (at_ l i) = true := fun i hi => nod_ents (h5 i hi) fun j hj h => ent_one h fun h0 => by
   have := (links_pos l 0).2 ⟨i, hi, j, hj, h0⟩
   omega
  refine ⟨⟨⟨⟨⟨h1, h2⟩, h3⟩, h4⟩, h5'⟩, fun i hi => ?_⟩
  have hdir : isDir l i = true → Reach l i := fun hd => by
   have := h7 i hi
   rw [hd, Bool.not_true, Bool.false_or, List.contains_iff_mem] at this
   exact ((bfs_ok hL _).dir i this).2
  have hreach : (at_ l i).kind ≠ 0 → Reach l i := fun hk => by
   cases hd : isDir l i with
   | true => exact hdir hd
   | false =>
    have h0 : i ≠ 0 := fun h0 => by
     subst h0
     rw [show isDir l 0 = true from h4] at hd; cases hd
    have hlki := hlk i hi
    unfold linkOk at hlki
    rw [if_neg hk, if_neg h0, if_neg (fun h2 => by rw [show isDir l i = true from beq_iff_eq.2 h2] at hd; cases hd), inR_iff] at hlki
    obtain ⟨x, hx, j, hj, hxj⟩ := (links_pos l i).1 (show 0 < linksTo l i l.length by omega)
    have hxd : isDir l x = true := beq_iff_eq.2 (nod_dir (h5 x hx) (by omega))
    have hxb := h7 x hx
    rw [hxd, Bool.not_true, Bool.false_or, List.contains_iff_mem] at hxb
    have hxr := ((bfs_ok hL _).dir x hxb).2
    have : i = kid l x j := by unfold kid; omega
    rw [this]
    exact Reach.step hxr hx hj
  have hlki := hlk i hi
  unfold specCond
  unfold linkOk at hlki
  simp only [Bool.and_eq_true, Bool.not_eq_true', Bool.and_eq_false_iff, decide_eq_false_iff_not, beq_eq_false_iff_ne, Bool.not_eq_false', beq_iff_eq]
  refine ⟨⟨?_, ?_⟩, ?_⟩
  ·by_cases h0 : i = 0
   ·subst h0
    have e : linksTo l ((0 : Nat) : Int) l.length = linksTo l 0 l.length := rfl
    exact .inr (by omega)
   ·exact .inl h0
  ·by_cases h0 : i = 0
   ·exact .inl (.inl (by omega))
   ·by_cases hd : (at_ l i).kind = 2
    ·rw [if_neg (by omega), if_neg h0, if_pos hd, inR_iff] at hlki
     exact .inr (by omega)
    ·exact .inl (.inr hd)
  ·by_cases hk : (at_ l i).kind = 0
   ·exact .inl hk
   ·exact .inr (List.contains_iff_mem.2 (hmet.1 (hreach hk)))
end Go.VM.VL
set_option linter.unusedSimpArgs false
set_option linter.unusedVariables false
namespace Go.VM.VL
open Go
variable {R : Type} (N : Nat)
def bitsFor (cu cg mode uid gid : Int) : Int :=
 if cu = uid then Int.fdiv mode (2 ^ (min (6 : Int).toNat 64))
 else if cg = gid then band (Int.fdiv mode (2 ^ (min (3 : Int).toNat 64))) 7
 else band mode 7
def mayB (cu cg mode uid gid want : Int) : Bool := decide (cu = 0) || (bnot want (bitsFor cu cg mode uid gid) == 0)
theorem bits_range {cu cg mode uid gid : Int} (h : 0 ≤ mode ∧ mode ≤ 511) : 0 ≤ bitsFor cu cg mode uid gid ∧ bitsFor cu cg mode uid gid < 8 := by
 obtain ⟨m, rfl⟩ := Int.eq_ofNat_of_zero_le h.1
 have hm : m ≤ 511 := by omega
 have f6 : Int.fdiv (m : Int) (2 ^ (min (6 : Int).toNat 64)) = ((m / 64 : Nat) : Int) := by
  show Int.fdiv (m : Int) ((64 : Nat) : Int) = _
  rw [Int.fdiv_eq_ediv_of_nonneg _ (by omega)]; rfl
 have f3 : Int.fdiv (m : Int) (2 ^ (min (3 : Int).toNat 64)) = ((m / 8 : Nat) : Int) := by
  show Int.fdiv (m : Int) ((8 : Nat) : Int) = _
  rw [Int.fdiv_eq_ediv_of_nonneg _ (by omega)]; rfl
 have b7 : ∀ n : Nat, n ≤ 511 → 0 ≤ band (n : Int) 7 ∧ band (n : Int) 7 < 8 := by
  intro n hn
  have := band_nat (a := n) (b := 7) (by omega)
  have h2 : (n &&& 7 % 18446744073709551616) ≤ 7 := Nat.and_le_right
  have e : band (n : Int) ((7 : Nat) : Int) = band (n : Int) 7 := rfl
  rw [e] at this
  rw [this]
  omega
 unfold bitsFor
 split
 ·rw [f6]; omega
 ·split
  ·rw [f3]; exact b7 _ (by omega)
  ·exact b7 m hm
theorem bits_fact : ∀ b w : Fin 8, (bnot (w.val : Int) (b.val : Int) == 0) = (band (b.val : Int) (w.val : Int) == (w.val : Int)) := by decide +kernel
theorem bits_at {b w : Int} (hb : 0 ≤ b ∧ b < 8) (hw : 0 ≤ w ∧ w ≤ 7) : (bnot w b == 0) = (band b w == w) := by
 obtain ⟨m, rfl⟩ := Int.eq_ofNat_of_zero_le hb.1
 obtain ⟨n, rfl⟩ := Int.eq_ofNat_of_zero_le hw.1
 exact bits_fact ⟨m, by omega⟩ ⟨n, by omega⟩
theorem t_impl_may (cu cg mode uid gid want : Int) (k : Bool → Option R) : g_zbk N cu cg mode uid gid want k = k (mayB cu cg mode uid gid want) := by
 rw [g_zbk_eq]
 unfold gb_zbk mayB bitsFor
 by_cases h0 : cu = 0
 ·simp [h0]
 ·rw [beq_false_of_ne h0]
  by_cases h1 : cu = uid
  ·subst h1; simp [h0, bnot, band]
  ·rw [beq_false_of_ne h1]
   by_cases h2 : cg = gid
   ·subst h2; simp [h0, h1, bnot, band]
   ·rw [beq_false_of_ne h2]
    simp [h0, h1, h2, bnot, band]
theorem t_spec_may {cu cg mode uid gid want : Int} (hm : 0 ≤ mode ∧ mode ≤ 511) (hw : 0 ≤ want ∧ want ≤ 7) (k : Bool → Option R) : g_zdp N cu cg mode uid gid want k = k (mayB cu cg mode uid gid want) := by
 rw [g_zdp_eq]
 unfold gb_zdp mayB
 rw [bits_at (bits_range hm) hw]
 unfold bitsFor
 by_cases h0 : cu = 0
 ·simp [h0]
 ·rw [beq_false_of_ne h0]
  by_cases h1 : cu = uid
  ·subst h1; simp [h0, bnot, band]
  ·rw [beq_false_of_ne h1]
   by_cases h2 : cg = gid
   ·subst h2; simp [h0, h1, bnot, band]
   ·rw [beq_false_of_ne h2]
    simp [h0, h1, h2, bnot, band]
structure Fine (l : List Nod) : Prop where
 small : Small l
 pos : 0 < l.length
 len : l.length ≤ 40
 ent : EntOk l
 mode : ∀ i, i < l.length → 0 ≤ (at_ l i).mode ∧ (at_ l i).mode ≤ 511
 link : ∀ i, i < l.length → (at_ l i).kind = 3 → pathB (at_ l i).data = true
theorem fine_of {l : List Nod} (hl : Small l) {room : Int} (h : good0 l room = true) : Fine l := by
 unfold good0 at h
 simp only [Bool.and_eq_true, all_range] at h
 obtain ⟨⟨⟨⟨⟨⟨h1, h2⟩, h4⟩, h5⟩, h3⟩, hlk⟩, h7⟩ := h
 have h1' := inR_iff.1 h1
 refine ⟨hl, by omega, by omega, entOk_of (Int.le_refl 0) (all_range.2 h5), fun i hi => ?_, fun i hi hk => ?_⟩
 ·have := h5 i hi
  unfold nodB at this
  split at this
  ·simp only [freeB, Bool.and_eq_true, beq_iff_eq] at this; omega
  ·simp only [Bool.and_eq_true, inR_iff] at this; omega
 ·have := h5 i hi
  unfold nodB kindB at this
  rw [if_neg (by omega), if_neg (by omega), if_neg (by omega), if_pos hk] at this
  simp only [Bool.and_eq_true] at this
  exact this.2.1
def entryAt (es : List Ent) (w : ByteArray) : Int := match (List.range' 0 es.length).findSome? (fun j => if (at_ es j).1.toList == w.toList then some (at_ es j).2 else none) with | some x => x | none => -1
theorem entryAt_lt {l : List Nod} (he : EntOk l) {a : Nat} (ha : a < l.length) (w : ByteArray) (h : ¬ entryAt (at_ l a).es w < 0) : (entryAt (at_ l a).es w).toNat < l.length ∧ entryAt (at_ l a).es w = ((entryAt (at_ l a).es w).toNat : Nat) := by
 unfold entryAt at h ⊢
 cases hq : (List.range' 0 (at_ l a).es.length).findSome? (fun j => if (at_ (at_ l a).es j).1.toList == w.toList then some (at_ (at_ l a).es j).2 else none) with
 | none => rw [hq] at h; exact absurd (by decide) h
 | some x =>
  obtain ⟨j, hj, hx⟩ := List.exists_of_findSome?_eq_some hq
  rw [List.mem_range'] at hj
  obtain ⟨m, hm, rfl⟩ := hj
  split at hx
  ·obtain rfl := Option.some.inj hx
   have := he a ha (0 + 1 * m) (by omega)
   simp only
   omega
  ·cases hx
theorem t_l3At {es : List Ent} (hes : es.length ≤ 1048576) (hN : 1048580 < N) (f : Fl) (w : ByteArray) (k : Int → Option R) : g_zdy N (entsV es) f w k = k (entryAt es w) := by
 rw [g_zdy_eq]
 unfold gb_zdy
 rw [len_ents]
 refine (loop_first (β := Int) (l := fun n i => l_zdy_0 N w (entsV es) _ (es.length : Int) _ _ n (i : Int)) (len := es.length) (q := fun j => if (at_ es j).1.toList == w.toList then some (at_ es j).2 else none) (kb := k) (k1 := k (-1)) ?_ ?_ (show es.length < N by omega)).trans ?_
 ·intro n i hi _
  simp only [l_zdy_0, l_zdy_0_step, lt_true hi, Int.natCast_nonneg, if_true, Int.toNat_natCast, nth_ents hi, must_some, un_ient]
  rw [wrap_succ (i := i) (by omega)]
  cases ((at_ es i).1.toList == w.toList) <;> rfl
 ·intro _ n
  simp only [l_zdy_0, l_zdy_0_step, Int.lt_irrefl, decide_false]
 ·unfold entryAt
  generalize (List.range' 0 es.length).findSome? _ = o
  cases o <;> rfl
theorem t_entry {l : List Nod} (hl : Small l) (hN : 1048580 < N) {a : Nat} (ha : a < l.length) (f : Fl) (room : Int) (w : ByteArray) (k : Int → Option R) : g_zbl N (nodsV l) f room (a : Int) w k = k (entryAt (at_ l a).es w) := by
 rw [g_zbl_eq]
 unfold gb_zbl
 have hes := hl.es a ha
 rw [if_pos (by omega), Int.toNat_natCast, nth_nods ha]
 simp only [must_some, un_inod, len_ents]
 refine (loop_first (β := Int) (l := fun n i => l_zbl_0 N w (entsV (at_ l a).es) _ ((at_ l a).es.length : Int) (nodsV l) f room _ _ n (i : Int)) (len := (at_ l a).es.length) (q := fun j => if (at_ (at_ l a).es j).1.toList == w.toList then some (at_ (at_ l a).es j).2 else none) (kb := k) (k1 := k (-1)) ?_ ?_ (show (at_ l a).es.length < N by omega)).trans ?_
 ·intro n i hi _
  simp only [l_zbl_0, l_zbl_0_step, lt_true hi, Int.natCast_nonneg, if_true, Int.toNat_natCast, nth_ents hi, must_some, un_ient]
  rw [wrap_succ (i := i) (by omega)]
  cases ((at_ (at_ l a).es i).1.toList == w.toList) <;> rfl
 ·intro _ n
  simp only [l_zbl_0, l_zbl_0_step, Int.lt_irrefl, decide_false]
 ·unfold entryAt
  generalize (List.range' 0 (at_ l a).es.length).findSome? _ = o
  cases o <;> rfl
def entName (es : List Ent) (x : Int) : Option ByteArray := (List.range' 0 es.length).findSome? (fun j => if (at_ es j).2 == x then some (at_ es j).1 else none)
def parentQ (l : List Nod) (x : Int) (i : Nat) : Option (Nat × ByteArray) := match entName (at_ l i).es x with | some w => some (i, w) | none => none
def parentOf (l : List Nod) (x : Int) : Nat × ByteArray := match (List.range' 0 l.length).findSome? (parentQ l x) with | some p => p | none => (0, ByteArray.mk #[])
theorem parent_lt {l : List Nod} (h0 : 0 < l.length) (x : Int) : (parentOf l x).1 < l.length := by
 unfold parentOf
 cases hq : (List.range' 0 l.length).findSome? (parentQ l x) with
 | none => exact h0
 | some p =>
  obtain ⟨j, hj, hx⟩ := List.exists_of_findSome?_eq_some hq
  rw [List.mem_range'] at hj
  obtain ⟨m, hm, rfl⟩ := hj
  unfold parentQ at hx
  split at hx
  ·obtain rfl := Option.some.inj hx
   show 0 + 1 * m < _
   omega
  ·cases hx
theorem parent_0 (es : List Ent) (hes : es.length ≤ 1048576) (hN : 1048580 < N) (x x_2 : Int) (e_3 : List V) (f_4 : Fl) (x_5 x_6 : Int) (f_8 : Fl) (e_11 : List V) (f_12 : Fl) (x_13 x_14 x_15 x_16 x_17 x_18 : Int) (w_19 : ByteArray) (e_20 : List V) (f_21 : Fl) (a : Option R) (b : ByteArray → Option R) :
  l_zbf_0 N x x_2 e_3 f_4 x_5 x_6 (entsV es) f_8 (es.length : Int) e_11 f_12 x_13 x_14 x_15 x_16 x_17 x_18 w_19 e_20 f_21 b (fun _ => a) N 0 = match entName es x with | some w => b w | none => a := by
 refine (loop_first (β := ByteArray) (l := fun n i => l_zbf_0 N x x_2 e_3 f_4 x_5 x_6 (entsV es) f_8 (es.length : Int) e_11 f_12 x_13 x_14 x_15 x_16 x_17 x_18 w_19 e_20 f_21 b (fun _ => a) n (i : Int)) (len := es.length) (q := fun j => if (at_ es j).2 == x then some (at_ es j).1 else none) (kb := b) (k1 := a) ?_ ?_ (show es.length < N by omega)).trans ?_
 ·intro n i hi _
  simp only [l_zbf_0, l_zbf_0_step, lt_true hi, Int.natCast_nonneg, if_true, Int.toNat_natCast, nth_ents hi, must_some, un_ient]
  rw [wrap_succ (i := i) (by omega)]
  cases ((at_ es i).2 == x) <;> rfl
 ·intro _ n
  simp only [l_zbf_0, l_zbf_0_step, Int.lt_irrefl, decide_false]
 ·unfold entName
  generalize (List.range' 0 es.length).findSome? _ = o
  cases o <;> rfl
theorem l3Parent_0 (es : List Ent) (hes : es.length ≤ 1048576) (hN : 1048580 < N) (x x_2 : Int) (e_3 : List V) (f_4 : Fl) (x_5 x_6 : Int) (f_8 : Fl) (e_11 : List V) (f_12 : Fl) (x_13 x_14 x_15 x_16 x_17 x_18 : Int) (w_19 : ByteArray) (e_20 : List V) (f_21 : Fl) (a b : Option R) :
  l_zbw_0 N x x_2 e_3 f_4 x_5 x_6 (entsV es) f_8 (es.length : Int) e_11 f_12 x_13 x_14 x_15 x_16 x_17 x_18 w_19 e_20 f_21 (fun _ => b) (fun _ => a) N 0 = match entName es x with | some _ => b | none => a := by
 refine (loop_first (β := ByteArray) (l := fun n i => l_zbw_0 N x x_2 e_3 f_4 x_5 x_6 (entsV es) f_8 (es.length : Int) e_11 f_12 x_13 x_14 x_15 x_16 x_17 x_18 w_19 e_20 f_21 (fun _ => b) (fun _ => a) n (i : Int)) (len := es.length) (q := fun j => if (at_ es j).2 == x then some (at_ es j).1 else none) (kb := fun _ => b) (k1 := a) ?_ ?_ (show es.length < N by omega)).trans ?_
 ·intro n i hi _
  simp only [l_zbw_0, l_zbw_0_step, lt_true hi, Int.natCast_nonneg, if_true, Int.toNat_natCast, nth_ents hi, must_some, un_ient]
  rw [wrap_succ (i := i) (by omega)]
  cases ((at_ es i).2 == x) <;> rfl
 ·intro _ n
  simp only [l_zbw_0, l_zbw_0_step, Int.lt_irrefl, decide_false]
 ·unfold entName
  generalize (List.range' 0 es.length).findSome? _ = o
  cases o <;> rfl
theorem t_parent {l : List Nod} (hl : Small l) (hN : 1048580 < N) (f : Fl) (room x : Int) (k : Int → ByteArray → Option R) : g_zbf N (nodsV l) f room x k = k ((parentOf l x).1 : Nat) (parentOf l x).2 := by
 rw [g_zbf_eq]
 unfold gb_zbf
 have hll := hl.len
 rw [len_nods]
 refine (loop_first (β := Nat × ByteArray) (l := fun n i => l_zbf_1 N x (nodsV l) _ (l.length : Int) (nodsV l) f room _ _ n (i : Int)) (len := l.length) (q := parentQ l x) (kb := fun p => k (p.1 : Nat) p.2) (k1 := k 0 (ByteArray.mk #[])) ?_ ?_ (show l.length < N by omega)).trans ?_
 ·intro n i hi _
  simp only [l_zbf_1, l_zbf_1_step, lt_true hi, Int.natCast_nonneg, if_true, Int.toNat_natCast, nth_nods hi, must_some, un_inod, len_ents]
  rw [parent_0 N _ (hl.es i hi) hN, wrap_succ (i := i) (by omega)]
  unfold parentQ
  cases entName (at_ l i).es x <;> rfl
 ·intro _ n
  simp only [l_zbf_1, l_zbf_1_step, Int.lt_irrefl, decide_false]
 ·unfold parentOf
  cases (List.range' 0 l.length).findSome? (parentQ l x) <;> rfl
theorem t_l3Parent {l : List Nod} (hl : Small l) (hN : 1048580 < N) (f : Fl) (room x : Int) (k : Int → Option R) : g_zbw N (nodsV l) f room x k = k ((parentOf l x).1 : Nat) := by
 rw [g_zbw_eq]
 unfold gb_zbw
 have hll := hl.len
 rw [len_nods]
 refine (loop_first (β := Nat × ByteArray) (l := fun n i => l_zbw_1 N x (nodsV l) _ (l.length : Int) (nodsV l) f room _ _ n (i : Int)) (len := l.length) (q := parentQ l x) (kb := fun p => k (p.1 : Nat)) (k1 := k 0) ?_ ?_ (show l.length < N by omega)).trans ?_
 ·intro n i hi _
  simp only [l_zbw_1, l_zbw_1_step, lt_true hi, Int.natCast_nonneg, if_true, Int.toNat_natCast, nth_nods hi, must_some, un_inod, len_ents]
  rw [l3Parent_0 N _ (hl.es i hi) hN, wrap_succ (i := i) (by omega)]
  unfold parentQ
  cases entName (at_ l i).es x <;> rfl
 ·intro _ n
  simp only [l_zbw_1, l_zbw_1_step, Int.lt_irrefl, decide_false]
 ·unfold parentOf
  cases (List.range' 0 l.length).findSome? (parentQ l x) <;> rfl
end Go.VM.VL
set_option linter.unusedSimpArgs false
set_option linter.unusedVariables false
namespace Go.VM.VL
open Go
variable {R : Type} (N : Nat)
def atSlash (w : ByteArray) : Bool := ((at_ (bl w) 0).toNat : Int) == 47
def stepF (fol : Bool) (l : List Nod) (cu cg : Int) (p : ByteArray) (rest : List ByteArray) (a h : Nat) : Int ⊕ (List ByteArray × Nat × Nat) :=
 if (at_ l a).kind ≠ 2 then .inl 3
 else if mayB cu cg (at_ l a).mode (at_ l a).uid (at_ l a).gid 1 = false then .inl 4
 else if dotB p then .inr (rest, a, h)
 else if dotsB p then .inr (rest, (parentOf l a).1, h)
 else if entryAt (at_ l a).es p < 0 then .inl 2
 else if (at_ l (entryAt (at_ l a).es p).toNat).kind ≠ 3 then .inr (rest, (entryAt (at_ l a).es p).toNat, h)
 else if rest.length = 0 ∧ fol = false then .inr (rest, (entryAt (at_ l a).es p).toNat, h)
 else if h = 8 then .inl 5
 else .inr (partsB (at_ l (entryAt (at_ l a).es p).toNat).data ++ rest, if atSlash (at_ l (entryAt (at_ l a).es p).toNat).data then 0 else a, h + 1)
def findRun (fol : Bool) (l : List Nod) (cu cg : Int) : Nat → List ByteArray → Nat → Nat → Option (Int ⊕ Nat)
 | 0, _, _, _ => none
 | n + 1, [], a, h => some (.inr a)
 | n + 1, p :: rest, a, h => match stepF fol l cu cg p rest a h with
  | .inl c => some (.inl c)
  | .inr (L, a', h') => findRun fol l cu cg n L a' h'
def far (L : List ByteArray) (h : Nat) : Nat := (8 - h) * 62 + L.length
theorem step_ok {fol : Bool} {l : List Nod} (hf : Fine l) {cu cg : Int} {p : ByteArray} {rest : List ByteArray} {a h : Nat} (ha : a < l.length) (hh : h ≤ 8) :
  match stepF fol l cu cg p rest a h with
  | .inl c => c ≠ 0
  | .inr (L, a', h') => a' < l.length ∧ h' ≤ 8 ∧ far L h' < far (p :: rest) h := by
 unfold stepF
 by_cases h1 : (at_ l a).kind ≠ 2
 ·rw [if_pos h1]; exact (show (3 : Int) ≠ 0 by decide)
 rw [if_neg h1]
 by_cases h2 : mayB cu cg (at_ l a).mode (at_ l a).uid (at_ l a).gid 1 = false
 ·rw [if_pos h2]; exact (show (4 : Int) ≠ 0 by decide)
 rw [if_neg h2]
 have hless : far rest h < far (p :: rest) h := by unfold far; rw [List.length_cons]; omega
 cases dotB p with
 | true => rw [if_pos rfl]; exact ⟨ha, hh, hless⟩
 | false =>
 rw [if_neg (by simp)]
 cases dotsB p with
 | true => rw [if_pos rfl]; exact ⟨parent_lt hf.pos _, hh, hless⟩
 | false =>
 rw [if_neg (by simp)]
 by_cases h3 : entryAt (at_ l a).es p < 0
 ·rw [if_pos h3]; exact (show (2 : Int) ≠ 0 by decide)
 rw [if_neg h3]
 obtain ⟨h4, h5⟩ := entryAt_lt hf.ent ha p h3
 by_cases h6 : (at_ l (entryAt (at_ l a).es p).toNat).kind ≠ 3
 ·rw [if_pos h6]; exact ⟨h4, hh, hless⟩
 rw [if_neg h6]
 by_cases h7 : rest.length = 0 ∧ fol = false
 ·rw [if_pos h7]; exact ⟨h4, hh, hless⟩
 rw [if_neg h7]
 by_cases h8 : h = 8
 ·rw [if_pos h8]; exact (show (5 : Int) ≠ 0 by decide)
 rw [if_neg h8]
 have hp := hf.link _ h4 (by omega)
 have hs := path_size hp
 have hl := partsB_len (at_ l (entryAt (at_ l a).es p).toNat).data
 refine ⟨?_, by omega, ?_⟩
 ·split
  ·exact hf.pos
  ·exact ha
 ·unfold far
  rw [List.length_append, List.length_cons]
  obtain ⟨d, hd⟩ : ∃ d, 8 - h = d + 1 := ⟨8 - h - 1, by omega⟩
  rw [hd, show 8 - (h + 1) = d by omega, Nat.succ_mul]
  omega
theorem run_ends {fol : Bool} {l : List Nod} (hf : Fine l) {cu cg : Int} : ∀ (n : Nat) (L : List ByteArray) (a h : Nat), a < l.length → h ≤ 8 → far L h < n → ∃ r, findRun fol l cu cg n L a h = some r
 | 0, _, _, _, _, _, h => by omega
 | n + 1, [], a, h, _, _, _ => ⟨_, rfl⟩
 | n + 1, p :: rest, a, h, ha, hh, hn => by
  have := step_ok hf ha hh (fol := fol) (cu := cu) (cg := cg) (p := p) (rest := rest)
  rw [findRun]
  cases hs : stepF fol l cu cg p rest a h with
  | inl c => exact ⟨_, rfl⟩
  | inr t =>
   obtain ⟨L, a', h'⟩ := t
   rw [hs] at this
   exact run_ends hf n L a' h' this.1 this.2.1 (by have := this.2.2; omega)
theorem noOwn_sh {g : Fl} (h : g.noOwn = .sh) : g.noOwn.noOwn = .sh ∧ (∀ es, okAdd g es = true) := by
 cases g with
 | own e => exact ⟨rfl, fun _ => rfl⟩
 | sh => exact ⟨rfl, fun _ => rfl⟩
 | bor => cases h
theorem strsV_drop (s : List ByteArray) (j : Nat) : (strsV s).drop j = strsV (s.drop j) := by unfold strsV; rw [List.map_drop]
theorem strsV_app (s t : List ByteArray) : strsV s ++ strsV t = strsV (s ++ t) := by unfold strsV; rw [List.map_append]
theorem strsV_noOwn (s : List ByteArray) : (strsV s).map V.noOwn = strsV s := by unfold strsV; rw [List.map_map]; rfl
theorem t_l4May {l : List Nod} (hf : Fine l) {a : Nat} (ha : a < l.length) (f : Fl) (room cu cg : Int) (k : Bool → Option R) :
  g_zds N (nodsV l) f room cu cg (a : Int) 1 k = k (mayB cu cg (at_ l a).mode (at_ l a).uid (at_ l a).gid 1) := by
 rw [g_zds_eq]
 unfold gb_zds
 rw [if_pos (by omega), Int.toNat_natCast, nth_nods ha]
 simp only [must_some, un_inod, t_spec_may N (hf.mode a ha) (show (0 : Int) ≤ 1 ∧ (1 : Int) ≤ 7 by omega)]
theorem t_mayAt {l : List Nod} {a : Nat} (ha : a < l.length) (f : Fl) (room cu cg : Int) (k : Bool → Option R) :
  g_zbo N (nodsV l) f room cu cg (a : Int) 1 k = k (mayB cu cg (at_ l a).mode (at_ l a).uid (at_ l a).gid 1) := by
 rw [g_zbo_eq]
 unfold gb_zbo
 rw [if_pos (by omega), Int.toNat_natCast, nth_nods ha]
 simp only [must_some, un_inod, t_impl_may]
theorem t_isDir {l : List Nod} {a : Nat} (ha : a < l.length) (f : Fl) (room : Int) (k : Bool → Option R) : g_zbm N (nodsV l) f room (a : Int) k = k ((at_ l a).kind == 2) := by
 rw [g_zbm_eq]
 unfold gb_zbm
 rw [if_pos (by omega), Int.toNat_natCast, nth_nods ha]
 simp only [must_some, un_inod]
theorem byteAt_first {w : ByteArray} (h : pathB w = true) (k : Int → Option R) : byteAt w 0 k = k ((at_ (bl w) 0).toNat : Int) := by
 have := path_size h
 rw [show (0 : Int) = ((0 : Nat) : Int) from rfl, byteAt_nat w (by rw [← size_bl]; omega)]
theorem t_l4W_step {l : List Nod} (hf : Fine l) (hN : 1048580 < N) (fol : Bool) {p : ByteArray} {rest : List ByteArray} {a h : Nat} (ha : a < l.length) (hh : h ≤ 8) (hr : rest.length ≤ 1000) (f : Fl) {g : Fl} (hg : g.noOwn = .sh) (room cu cg : Int)
  (K : Int → List V → Fl → Int → Int → Int → Int → List V → Fl → Int → Option R) (ke : Int → Option R) (hK : ∀ c, c ≠ 0 → ∀ a b c1 d e f g h i, K c a b c1 d e f g h i = ke c) :
  ∃ g' : Fl, g'.noOwn = .sh ∧ g_zbx N fol (nodsV l) f room cu cg (a : Int) (strsV (p :: rest)) g (h : Int) K = match stepF fol l cu cg p rest a h with
   | .inl c => ke c
   | .inr (L, a', h') => K 0 (nodsV l) f room cu cg (a' : Nat) (strsV L) g' (h' : Nat) := by
 rw [g_zbx_eq]
 unfold gb_zbx stepF
 rw [if_pos (by omega), Int.toNat_natCast, nth_nods ha]
 simp only [must_some, un_inod, t_l4May N hf ha]
 obtain ⟨hg1, hg2⟩ := noOwn_sh hg
 have hsh : Fl.noOwn .sh = .sh := rfl
 have e1 : (((strsV (p :: rest)).take (strsV (p :: rest)).length).drop 1) = strsV rest := by rw [List.take_of_length_le (Nat.le_refl _), strsV_drop]; rfl
 rw [e1, show nth (strsV (p :: rest)) 0 = some (.str p) from rfl]
 simp only [must_some, asStr_str]
 rw [show (p.toList == (ByteArray.mk #[46]).toList) = dotB p from rfl, show (p.toList == (ByteArray.mk #[46, 46]).toList) = dotsB p from rfl]
 have e2 : (0 : Int) ≤ 1 ∧ (1 : Int) ≤ ((strsV (p :: rest)).length : Int) := by rw [len_strs, List.length_cons]; omega
 simp only [if_pos e2]
 by_cases h1 : (at_ l a).kind = 2
 case neg =>
  refine ⟨.sh, rfl, ?_⟩
  rw [if_pos h1, bne_iff_ne.2 h1]
  exact hK 3 (by decide) _ _ _ _ _ _ _ _ _
 rw [if_neg (show ¬ (at_ l a).kind ≠ 2 from fun h => h h1), h1]
 cases h2 : mayB cu cg (at_ l a).mode (at_ l a).uid (at_ l a).gid 1 with
 | false =>
  refine ⟨.sh, rfl, ?_⟩
  rw [if_pos (show false = false from rfl)]
  exact hK 4 (by decide) _ _ _ _ _ _ _ _ _
 | true =>
 rw [if_neg (show ¬ (true = false) by decide)]
 simp only [bne_self_eq_false, Bool.not_true]
 cases dotB p with
 | true => exact ⟨g.noOwn.noOwn, by rw [hg1]; rfl, rfl⟩
 | false =>
 rw [if_neg (show ¬ (false = true) by decide)]
 simp only
 cases dotsB p with
 | true =>
  refine ⟨g.noOwn.noOwn, by rw [hg1]; rfl, ?_⟩
  rw [if_pos (show true = true from rfl)]
  simp only
  rw [t_l3Parent N hf.small hN]
 | false =>
 rw [if_neg (show ¬ (false = true) by decide)]
 simp only
 rw [t_l3At N (hf.small.es a ha) hN]
 by_cases h3 : entryAt (at_ l a).es p < 0
 ·refine ⟨.sh, rfl, ?_⟩
  rw [if_pos h3, decide_eq_true h3]
  exact hK 2 (by decide) _ _ _ _ _ _ _ _ _
 rw [if_neg h3, decide_eq_false h3]
 obtain ⟨h4, h5⟩ := entryAt_lt hf.ent ha p h3
 simp only
 rw [if_pos (by omega), nth_nods h4]
 simp only [must_some, un_inod]
 by_cases h6 : (at_ l (entryAt (at_ l a).es p).toNat).kind = 3
 case neg =>
  refine ⟨g.noOwn.noOwn, by rw [hg1]; rfl, ?_⟩
  rw [if_pos h6, bne_iff_ne.2 h6]
  simp only
  rw [← h5]
 rw [if_neg (show ¬ (at_ l (entryAt (at_ l a).es p).toNat).kind ≠ 3 from fun h => h h6), h6]
 have hp := hf.link _ h4 h6
 have hs := path_size hp
 have hpl := partsB_len (at_ l (entryAt (at_ l a).es p).toNat).data
 simp only [bne_self_eq_false, len_strs]
 have hlink : ∀ ks : Fl, (match ((h : Int) == 8) with
      | true => K 5 (nodsV l) f room cu cg (a : Int) (strsV rest) g.noOwn.noOwn (h : Int)
      | false => g_zcn N (at_ l (entryAt (at_ l a).es p).toNat).data fun e24 => guardB (okAdd g.noOwn.noOwn.noOwn.noOwn (strsV rest)) ((if (e24.length + rest.length) * 16 ≤ 140737488355328 then byteAt (at_ l (entryAt (at_ l a).es p).toNat).data 0 fun n25 => (match (n25 == 47) with
         | true => K 0 (nodsV l) f room cu cg 0 (e24 ++ (strsV rest).map V.noOwn) ks (IntKind.i64.wrap ((h : Int) + 1))
         | false => K 0 (nodsV l) f room cu cg (a : Int) (e24 ++ (strsV rest).map V.noOwn) ks (IntKind.i64.wrap ((h : Int) + 1))) else none))) =
    match (if h = 8 then (Sum.inl 5 : Int ⊕ (List ByteArray × Nat × Nat)) else .inr (partsB (at_ l (entryAt (at_ l a).es p).toNat).data ++ rest, if atSlash (at_ l (entryAt (at_ l a).es p).toNat).data then 0 else a, h + 1)) with
   | .inl c => ke c
   | .inr (L, a', h') => K 0 (nodsV l) f room cu cg (a' : Nat) (strsV L) ks (h' : Nat) := by
  intro ks
  by_cases h8 : h = 8
  ·subst h8
   exact hK 5 (by decide) _ _ _ _ _ _ _ _ _
  ·rw [if_neg h8, beq_false_of_ne (by omega : (h : Int) ≠ 8)]
   simp only [t_l2Parts N (show (at_ l (entryAt (at_ l a).es p).toNat).data.size ≤ 1048576 by omega) hN]
   rw [hg1, hsh, hsh, okAdd_sh, if_pos (by rw [len_strs]; omega), byteAt_first hp, strsV_noOwn, strsV_app, wrap_succ (i := h) (by omega)]
   unfold atSlash
   cases (((at_ (bl (at_ l (entryAt (at_ l a).es p).toNat).data) 0).toNat : Int) == 47) <;> rfl
 by_cases h7 : rest.length = 0
 ·have hc0 : ((rest.length : Int) == 0) = true := by rw [h7]; rfl
  rw [hc0]
  cases fol with
  | false =>
   refine ⟨g.noOwn.noOwn, by rw [hg1]; rfl, ?_⟩
   rw [if_pos (show rest.length = 0 ∧ false = false from ⟨h7, rfl⟩)]
   simp only
   rw [← h5]
   rfl
  | true =>
   refine ⟨.own 9, rfl, ?_⟩
   rw [if_neg (show ¬ (rest.length = 0 ∧ true = false) from fun hc => by cases hc.2)]
   exact (hlink (.own 9))
 ·refine ⟨.own 9, rfl, ?_⟩
  rw [if_neg (show ¬ (rest.length = 0 ∧ fol = false) from fun hc => h7 hc.1), beq_false_of_ne (by omega : (rest.length : Int) ≠ 0)]
  exact (hlink (.own 9))
end Go.VM.VL
set_option linter.unusedSimpArgs false
set_option linter.unusedVariables false
namespace Go.VM.VL
open Go
variable {R : Type} (N : Nat)
def outF (ke : Int → Option R) (ka : Nat → Option R) : Option (Int ⊕ Nat) → Option R
 | none => none
 | some (.inl c) => ke c
 | some (.inr a) => ka a
theorem spec_loop {l : List Nod} (hf : Fine l) (hN : 1048580 < N) (b1 b2 : Bool) (e_3 : List V) (f_4 : Fl) (x_5 x_6 x_7 : Int) (f : Fl) (room cu cg : Int) (ke : Int → Option R) (ka : Int → Option R) :
  ∀ (n : Nat) (L : List ByteArray) (a h : Nat) (g : Fl), g.noOwn = .sh → a < l.length → h ≤ 8 → far L h ≤ 800 →
   l_zdn_0 N b1 b2 e_3 f_4 x_5 x_6 x_7 (fun x44 _ _ _ _ _ _ _ _ _ => ke x44) (fun _ _ _ _ _ x59 _ _ _ => ka x59) n (nodsV l) f room cu cg (a : Int) (strsV L) g (h : Int)
    = outF ke (fun a => ka (a : Nat)) (findRun (b1 || b2) l cu cg n L a h)
 | 0, L, a, h, g, _, _, _, _ => rfl
 | n + 1, [], a, h, g, _, _, _, _ => rfl
 | n + 1, p :: rest, a, h, g, hg, ha, hh, hfar => by
  have hr : rest.length ≤ 1000 := by unfold far at hfar; rw [List.length_cons] at hfar; omega
  have hso := step_ok hf ha hh (fol := b1 || b2) (cu := cu) (cg := cg) (p := p) (rest := rest)
  obtain ⟨g', hg', hstep⟩ := t_l4W_step (R := R) N hf hN (b1 || b2) (p := p) (rest := rest) ha hh hr f hg room cu cg
   (fun x24 e25 f26 x27 x28 x29 x30 e31 f32 x33 => (match (x24 != 0) with
    | true => ke x24
    | false => l_zdn_0 N b1 b2 e_3 f_4 x_5 x_6 x_7 (fun x44 _ _ _ _ _ _ _ _ _ => ke x44) (fun _ _ _ _ _ x59 _ _ _ => ka x59) n e25 f26 x27 x28 x29 x30 e31 f32 x33)) ke
   (fun c hc a b c1 d e f g h i => by rw [bne_iff_ne.2 hc])
  have hlhs : l_zdn_0 N b1 b2 e_3 f_4 x_5 x_6 x_7 (fun x44 _ _ _ _ _ _ _ _ _ => ke x44) (fun _ _ _ _ _ x59 _ _ _ => ka x59) (n + 1) (nodsV l) f room cu cg (a : Int) (strsV (p :: rest)) g (h : Int)
    = g_zbx N (b1 || b2) (nodsV l) f room cu cg (a : Int) (strsV (p :: rest)) g (h : Int) (fun x24 e25 f26 x27 x28 x29 x30 e31 f32 x33 => (match (x24 != 0) with
    | true => ke x24
    | false => l_zdn_0 N b1 b2 e_3 f_4 x_5 x_6 x_7 (fun x44 _ _ _ _ _ _ _ _ _ => ke x44) (fun _ _ _ _ _ x59 _ _ _ => ka x59) n e25 f26 x27 x28 x29 x30 e31 f32 x33)) := by
   simp only [l_zdn_0, l_zdn_0_step, len_strs, List.length_cons]
   rw [decide_eq_true (by omega)]
   cases b1 <;> rfl
  rw [hlhs, hstep, findRun]
  cases hs : stepF (b1 || b2) l cu cg p rest a h with
  | inl c => rfl
  | inr t =>
   obtain ⟨L', a', h'⟩ := t
   rw [hs] at hso
   exact spec_loop hf hN b1 b2 e_3 f_4 x_5 x_6 x_7 f room cu cg ke ka n L' a' h' g' hg' hso.1 hso.2.1 (by have := hso.2.2; omega)
theorem t_Concat (hN : 1048580 < N) {a b : List ByteArray} (ha : a.length ≤ 1048577) (hb : b.length ≤ 1048577) (f : Fl) (k : List V → Option R) :
  g_zam N [.list 1 (strsV a) .sh, .list 1 (strsV b) .sh] f k = k (strsV (a ++ b)) := by
 rw [g_zam_eq]
 unfold gb_zam
 obtain ⟨M, hM⟩ : ∃ M, N = M + 3 := ⟨N - 3, by omega⟩
 have w1 : IntKind.i64.wrap (0 + (a.length : Int)) = a.length := wrap_i64 (by omega) (by omega) |>.trans (by omega)
 have w2 : IntKind.i64.wrap ((a.length : Int) + (b.length : Int)) = ((a.length + b.length : Nat) : Int) := wrap_i64 (by omega) (by omega)
 have hl1 : ∀ (k0 : Int → Option R), l_zam_0 N [.list 1 (strsV a) .sh, .list 1 (strsV b) .sh] f [.list 1 (strsV a) .sh, .list 1 (strsV b) .sh] f.noOwn 2 k0 N 0 0 = k0 ((a.length + b.length : Nat) : Int) := by
  intro k0
  refine loop_run (l := fun n i => l_zam_0 N [.list 1 (strsV a) .sh, .list 1 (strsV b) .sh] f [.list 1 (strsV a) .sh, .list 1 (strsV b) .sh] f.noOwn 2 k0 n ((if i = 0 then 0 else if i = 1 then a.length else a.length + b.length : Nat) : Int) (i : Int)) (len := 2) (k1 := k0 ((a.length + b.length : Nat) : Int)) ?_ ?_ (show 2 < N by omega)
  ·intro n i hi
   rcases (show i = 0 ∨ i = 1 by omega) with rfl | rfl
   ·show (match decide (IntKind.i64.wrap (0 + ((strsV a).length : Int)) < 0) with | true => none | false => l_zam_0 N _ f _ _ 2 k0 n (IntKind.i64.wrap (0 + ((strsV a).length : Int))) _) = _
    rw [len_strs, w1, decide_eq_false (by omega)]
    rfl
   ·show (match decide (IntKind.i64.wrap ((a.length : Int) + ((strsV b).length : Int)) < 0) with | true => none | false => l_zam_0 N _ f _ _ 2 k0 n (IntKind.i64.wrap ((a.length : Int) + ((strsV b).length : Int))) _) = _
    rw [len_strs, w2, decide_eq_false (by omega)]
    rfl
  ·intro n
   rfl
 have hl2 : ∀ (k0 : List V → Option R), l_zam_1 N [.list 1 (strsV a) .sh, .list 1 (strsV b) .sh] f.noOwn 2 k0 N [] 0 = k0 (strsV (a ++ b)) := by
  intro k0
  refine loop_run (l := fun n i => l_zam_1 N [.list 1 (strsV a) .sh, .list 1 (strsV b) .sh] f.noOwn 2 k0 n (if i = 0 then [] else if i = 1 then strsV a else strsV (a ++ b)) (i : Int)) (len := 2) (k1 := k0 (strsV (a ++ b))) ?_ ?_ (show 2 < N by omega)
  ·intro n i hi
   rcases (show i = 0 ∨ i = 1 by omega) with rfl | rfl
   ·show (if (0 + (strsV a).length) * 16 ≤ 140737488355328 then l_zam_1 N _ f.noOwn 2 k0 n ([] ++ (strsV a).map V.noOwn) _ else none) = _
    rw [len_strs, if_pos (by omega), strsV_noOwn]
    rfl
   ·show (if ((strsV a).length + (strsV b).length) * 16 ≤ 140737488355328 then l_zam_1 N _ f.noOwn 2 k0 n (strsV a ++ (strsV b).map V.noOwn) _ else none) = _
    rw [len_strs, len_strs, if_pos (by omega), strsV_noOwn, strsV_app]
    rfl
  ·intro n
   rfl
 refine (hl1 _).trans ?_
 rw [g_zao_eq]
 unfold gb_zao
 rw [if_pos ⟨by omega, by omega⟩]
 exact hl2 _
theorem t_HasSuffix {w : ByteArray} (hw : 1 ≤ w.size ∧ w.size ≤ 60) (k : Bool → Option R) : g_zau N w (ByteArray.mk #[47]) k = byteAt w (IntKind.i64.wrap ((w.size : Int) - 1)) fun n => k (n == 47) := by
 rw [g_zau_eq]
 unfold gb_zau
 rw [g_zaj_eq]
 unfold gb_zaj
 rw [show (((ByteArray.mk #[47]).size : Nat) : Int) = 1 from rfl, decide_eq_true (by omega), wrap_i64 (by omega) (by omega), show (w.size : Int) - 1 = ((w.size - 1 : Nat) : Int) by omega]
 have hlt : w.size - 1 < (bl w).length := by rw [← size_bl]; omega
 rw [byteAt_nat w hlt]
 simp only
 rw [if_pos ⟨by omega, by omega⟩, Int.toNat_natCast]
 congr 1
 rw [ByteArray.toList_eq, ByteArray.toList_eq]
 show (bl (ByteArray.extract w (w.size - 1) w.size) == [47]) = _
 rw [bl_extract, List.take_of_length_le (by rw [size_bl]; exact Nat.le_refl _), List.drop_eq_getElem_cons hlt, List.drop_eq_nil_of_le (by rw [← size_bl]; omega), at_get hlt]
 rw [show (47 : Int) = ((47 : UInt8).toNat : Int) from rfl, byte_eq]
 by_cases h : (bl w)[w.size - 1] = 47
 ·rw [h]; rfl
 ·rw [decide_eq_false h]
  apply beq_false_of_ne
  intro h2
  exact h (List.cons.inj h2).1
theorem impl_loop {l : List Nod} (hf : Fine l) (hN : 1048580 < N) (b1 b2 : Bool) (f : Fl) (room cu cg : Int) (ke : Int → Option R) (ka : Int → Option R) :
  ∀ (n : Nat) (L : List ByteArray) (a h : Nat), a < l.length → h ≤ 8 → far L h ≤ 800 →
   l_zcb_0 N b1 b2 (nodsV l) f room cu cg (fun x54 _ => ke x54) ka n (strsV L) (a : Int) (h : Int)
    = outF ke (fun a => ka (a : Nat)) (findRun (b1 || b2) l cu cg n L a h)
 | 0, L, a, h, _, _, _ => rfl
 | n + 1, [], a, h, _, _, _ => rfl
 | n + 1, p :: rest, a, h, ha, hh, hfar => by
  have hr : rest.length ≤ 1000 := by unfold far at hfar; rw [List.length_cons] at hfar; omega
  have hso := step_ok hf ha hh (fol := b1 || b2) (cu := cu) (cg := cg) (p := p) (rest := rest)
  have ih := fun (L' : List ByteArray) (a' h' : Nat) (hs : stepF (b1 || b2) l cu cg p rest a h = .inr (L', a', h')) => (by
   rw [hs] at hso
   exact impl_loop hf hN b1 b2 f room cu cg ke ka n L' a' h' hso.1 hso.2.1 (by have := hso.2.2; omega) :
    l_zcb_0 N b1 b2 (nodsV l) f room cu cg (fun x54 _ => ke x54) ka n (strsV L') (a' : Nat) (h' : Nat) = outF ke (fun a => ka (a : Nat)) (findRun (b1 || b2) l cu cg n L' a' h'))
  have hgoal : l_zcb_0 N b1 b2 (nodsV l) f room cu cg (fun x54 _ => ke x54) ka (n + 1) (strsV (p :: rest)) (a : Int) (h : Int) = match stepF (b1 || b2) l cu cg p rest a h with
    | .inl c => ke c
    | .inr (L', a', h') => l_zcb_0 N b1 b2 (nodsV l) f room cu cg (fun x54 _ => ke x54) ka n (strsV L') (a' : Nat) (h' : Nat) := by
   simp only [l_zcb_0, l_zcb_0_step]
   have e0 : decide (((strsV (p :: rest)).length : Int) > 0) = true := decide_eq_true (by rw [len_strs, List.length_cons]; omega)
   have e1 : (((strsV (p :: rest)).take (strsV (p :: rest)).length).drop 1) = strsV rest := by rw [List.take_of_length_le (Nat.le_refl _), strsV_drop]; rfl
   have e2 : (0 : Int) ≤ 1 ∧ (1 : Int) ≤ ((strsV (p :: rest)).length : Int) := by rw [len_strs, List.length_cons]; omega
   rw [e0, e1, show nth (strsV (p :: rest)) 0 = some (.str p) from rfl]
   simp only [must_some, asStr_str, if_pos e2, t_isDir N ha, t_mayAt N ha]
   rw [show (p.toList == (ByteArray.mk #[46]).toList) = dotB p from rfl, show (p.toList == (ByteArray.mk #[46, 46]).toList) = dotsB p from rfl]
   unfold stepF
   by_cases h1 : (at_ l a).kind = 2
   case neg => rw [if_pos h1, beq_false_of_ne h1]; rfl
   rw [if_neg (show ¬ (at_ l a).kind ≠ 2 from fun h => h h1), h1]
   cases h2 : mayB cu cg (at_ l a).mode (at_ l a).uid (at_ l a).gid 1 with
   | false => rfl
   | true =>
   rw [if_neg (show ¬ (true = false) by decide)]
   simp only [beq_self_eq_true, Bool.not_true]
   cases dotB p with
   | true => rfl
   | false =>
   rw [if_neg (show ¬ (false = true) by decide)]
   simp only
   cases dotsB p with
   | true =>
    rw [if_pos (show true = true from rfl)]
    simp only
    rw [t_parent N hf.small hN]
   | false =>
   rw [if_neg (show ¬ (false = true) by decide)]
   simp only
   rw [t_entry N hf.small hN ha]
   by_cases h3 : entryAt (at_ l a).es p < 0
   ·rw [if_pos h3, decide_eq_true h3]
   rw [if_neg h3, decide_eq_false h3]
   obtain ⟨h4, h5⟩ := entryAt_lt hf.ent ha p h3
   simp only
   rw [if_pos (by omega), nth_nods h4]
   simp only [must_some, un_inod]
   by_cases h6 : (at_ l (entryAt (at_ l a).es p).toNat).kind = 3
   case neg =>
    rw [if_pos h6, beq_false_of_ne h6]
    simp only
    rw [← h5]
   rw [if_neg (show ¬ (at_ l (entryAt (at_ l a).es p).toNat).kind ≠ 3 from fun h => h h6), h6]
   have hp := hf.link _ h4 h6
   have hs := path_size hp
   have hpl := partsB_len (at_ l (entryAt (at_ l a).es p).toNat).data
   simp only [beq_self_eq_true, len_strs, t_partsOf N (show (at_ l (entryAt (at_ l a).es p).toNat).data.size ≤ 1048576 by omega) hN, t_Concat N hN (show (partsB (at_ l (entryAt (at_ l a).es p).toNat).data).length ≤ 1048577 by omega) (show rest.length ≤ 1048577 by omega), byteAt_first hp]
   rw [wrap_succ (i := h) (by omega), show (((at_ (bl (at_ l (entryAt (at_ l a).es p).toNat).data) 0).toNat : Int) == 47) = atSlash (at_ l (entryAt (at_ l a).es p).toNat).data from rfl]
   by_cases h8 : h = 8
   ·subst h8
    by_cases h7 : rest.length = 0
    ·rw [decide_eq_false (by omega)]
     cases b1 with
     | true => rw [if_neg (show ¬ (rest.length = 0 ∧ (true || b2) = false) from fun hc => by simp at hc)]; rfl
     | false =>
      cases b2 with
      | true => rw [if_neg (show ¬ (rest.length = 0 ∧ (false || true) = false) from fun hc => by simp at hc)]; rfl
      | false =>
       rw [if_pos (show rest.length = 0 ∧ (false || false) = false from ⟨h7, rfl⟩)]
       simp only
       rw [← h5]
    ·rw [decide_eq_true (by omega), if_neg (show ¬ (rest.length = 0 ∧ (b1 || b2) = false) from fun hc => h7 hc.1)]; rfl
   ·rw [beq_false_of_ne (by omega : (h : Int) ≠ 8), if_neg h8]
    by_cases h7 : rest.length = 0
    ·rw [decide_eq_false (by omega)]
     cases b1 with
     | true =>
      rw [if_neg (show ¬ (rest.length = 0 ∧ (true || b2) = false) from fun hc => by simp at hc)]
      cases atSlash (at_ l (entryAt (at_ l a).es p).toNat).data <;> rfl
     | false =>
      cases b2 with
      | true =>
       rw [if_neg (show ¬ (rest.length = 0 ∧ (false || true) = false) from fun hc => by simp at hc)]
       cases atSlash (at_ l (entryAt (at_ l a).es p).toNat).data <;> rfl
      | false =>
       rw [if_pos (show rest.length = 0 ∧ (false || false) = false from ⟨h7, rfl⟩)]
       simp only
       rw [← h5]
    ·rw [decide_eq_true (by omega), if_neg (show ¬ (rest.length = 0 ∧ (b1 || b2) = false) from fun hc => h7 hc.1)]
     cases atSlash (at_ l (entryAt (at_ l a).es p).toNat).data <;> rfl
  rw [hgoal, findRun]
  cases hs : stepF (b1 || b2) l cu cg p rest a h with
  | inl c => rfl
  | inr t =>
   obtain ⟨L', a', h'⟩ := t
   exact ih L' a' h' hs
end Go.VM.VL
set_option linter.unusedSimpArgs false
set_option linter.unusedVariables false
namespace Go.VM.VL
open Go
variable {R : Type} (N : Nat)
theorem parts_far {w : ByteArray} (h : pathB w = true) : far (partsB w) 0 ≤ 800 := by
 have h1 := path_size h
 have h2 := partsB_len w
 unfold far; omega
def findA (l : List Nod) (cu cg : Int) (w : ByteArray) (fol : Bool) : Option (Int × Int) :=
 if wholeB w then
  match findRun (fol || (((at_ (bl w) (w.size - 1)).toNat : Int) == 47)) l cu cg N (partsB w) 0 0 with
  | none => none
  | some (.inl c) => some (0, c)
  | some (.inr a) => some (if ((((at_ (bl w) (w.size - 1)).toNat : Int) == 47) && !((at_ l a).kind == 2)) then (0, 3) else ((a : Nat), 0))
 else some (0, 1)
theorem find_ends {l : List Nod} (hf : Fine l) (hN : 1048580 < N) (cu cg : Int) (w : ByteArray) (fol : Bool) : ∃ r, findA N l cu cg w fol = some r := by
 unfold findA
 by_cases h : wholeB w = true
 ·rw [if_pos h]
  unfold wholeB at h
  rw [Bool.and_eq_true] at h
  obtain ⟨r, hr⟩ := run_ends hf (fol := fol || (((at_ (bl w) (w.size - 1)).toNat : Int) == 47)) (cu := cu) (cg := cg) N (partsB w) 0 0 hf.pos (by omega) (by have := parts_far h.1; omega)
  rw [hr]
  cases r <;> exact ⟨_, rfl⟩
 ·rw [if_neg h]; exact ⟨_, rfl⟩
theorem run_lt {fol : Bool} {l : List Nod} (hf : Fine l) {cu cg : Int} : ∀ (n : Nat) (L : List ByteArray) (a h b : Nat), a < l.length → h ≤ 8 → findRun fol l cu cg n L a h = some (.inr b) → b < l.length
 | 0, _, _, _, _, _, _, h => by cases h
 | n + 1, [], a, h, b, ha, _, hr => by
  rw [findRun] at hr
  obtain rfl := Sum.inr.inj (Option.some.inj hr)
  exact ha
 | n + 1, p :: rest, a, h, b, ha, hh, hr => by
  have := step_ok hf ha hh (fol := fol) (cu := cu) (cg := cg) (p := p) (rest := rest)
  rw [findRun] at hr
  cases hs : stepF fol l cu cg p rest a h with
  | inl c => rw [hs] at hr; cases hr
  | inr t =>
   obtain ⟨L, a', h'⟩ := t
   rw [hs] at this hr
   exact run_lt hf n L a' h' b this.1 this.2.1 hr
theorem t_l4Find {l : List Nod} (hf : Fine l) (hN : 1048580 < N) {w : ByteArray} (hw : w.size ≤ 1048576) (f : Fl) (room cu cg : Int) (fol : Bool) {r : Int × Int} (hr : findA N l cu cg w fol = some r) (k : Int → Int → Option R) :
  g_zdn N (nodsV l) f room cu cg w fol k = k r.1 r.2 := by
 rw [g_zdn_eq]
 unfold gb_zdn
 rw [t_l2Whole N hw hN]
 unfold findA at hr
 by_cases h : wholeB w = true
 ·rw [if_pos h] at hr
  rw [h]
  unfold wholeB at h
  rw [Bool.and_eq_true] at h
  have hs := path_size h.1
  simp only [Bool.not_true]
  rw [wrap_i64 (by omega) (by omega), show (w.size : Int) - 1 = ((w.size - 1 : Nat) : Int) by omega, byteAt_nat w (by rw [← size_bl]; omega)]
  simp only [t_l2Parts N hw hN]
  rw [show (0 : Int) = ((0 : Nat) : Int) from rfl]
  refine (spec_loop N hf hN fol (((at_ (bl w) (w.size - 1)).toNat : Int) == 47) (nodsV l) f room cu cg _ room cu cg (fun x44 => k 0 x44) _ N (partsB w) 0 0 .sh rfl hf.pos (by omega) (parts_far h.1)).trans ?_
  cases hq : findRun (fol || (((at_ (bl w) (w.size - 1)).toNat : Int) == 47)) l cu cg N (partsB w) 0 0 with
  | none => rw [hq] at hr; cases hr
  | some q =>
   rw [hq] at hr
   cases q with
   | inl c => obtain rfl := Option.some.inj hr; rfl
   | inr a =>
    obtain rfl := Option.some.inj hr
    have ha := run_lt hf N _ _ _ _ hf.pos (by omega) hq
    show (match (((at_ (bl w) (w.size - 1)).toNat : Int) == 47) with
     | true => (if 0 ≤ ((a : Nat) : Int) then must (nth (nodsV l) ((a : Nat) : Int).toNat) fun e63 => un_impl_Node e63 fun n64 n65 n66 n67 n68 w69 e70 f71 => (match (n64 != 2) with
      | true => k 0 3
      | false => k ((a : Nat) : Int) 0) else none)
     | false => k ((a : Nat) : Int) 0) = _
    rw [if_pos (by omega), Int.toNat_natCast, nth_nods ha]
    simp only [must_some, un_inod, bne]
    cases (((at_ (bl w) (w.size - 1)).toNat : Int) == 47) <;> cases ((at_ l a).kind == 2) <;> rfl
 ·rw [if_neg h] at hr
  obtain rfl := Option.some.inj hr
  rw [Bool.eq_false_iff.2 h]
  rfl
theorem t_find {l : List Nod} (hf : Fine l) (hN : 1048580 < N) {w : ByteArray} (hw : w.size ≤ 1048576) (f : Fl) (room cu cg : Int) (fol : Bool) {r : Int × Int} (hr : findA N l cu cg w fol = some r) (k : Int → Int → Option R) :
  g_zcb N (nodsV l) f room cu cg w fol k = k r.1 r.2 := by
 rw [g_zcb_eq]
 unfold gb_zcb
 rw [t_isWhole N hw hN]
 unfold findA at hr
 by_cases h : wholeB w = true
 ·rw [if_pos h] at hr
  rw [h]
  unfold wholeB at h
  rw [Bool.and_eq_true] at h
  have hs := path_size h.1
  simp only [Bool.not_true]
  rw [t_HasSuffix N hs, wrap_i64 (by omega) (by omega), show (w.size : Int) - 1 = ((w.size - 1 : Nat) : Int) by omega, byteAt_nat w (by rw [← size_bl]; omega)]
  simp only [t_partsOf N hw hN]
  rw [show (0 : Int) = ((0 : Nat) : Int) from rfl]
  refine (impl_loop N hf hN fol (((at_ (bl w) (w.size - 1)).toNat : Int) == 47) f room cu cg (fun x54 => k 0 x54) _ N (partsB w) 0 0 hf.pos (by omega) (parts_far h.1)).trans ?_
  cases hq : findRun (fol || (((at_ (bl w) (w.size - 1)).toNat : Int) == 47)) l cu cg N (partsB w) 0 0 with
  | none => rw [hq] at hr; cases hr
  | some q =>
   rw [hq] at hr
   cases q with
   | inl c => obtain rfl := Option.some.inj hr; rfl
   | inr a =>
    obtain rfl := Option.some.inj hr
    have ha := run_lt hf N _ _ _ _ hf.pos (by omega) hq
    simp only [outF, t_isDir N ha]
    cases (((at_ (bl w) (w.size - 1)).toNat : Int) == 47) <;> cases ((at_ l a).kind == 2) <;> rfl
 ·rw [if_neg h] at hr
  obtain rfl := Option.some.inj hr
  rw [Bool.eq_false_iff.2 h]
  rfl
def askedB (l : List Nod) (room cu cg : Int) : Bool := good0 l room && (inR cu 0 99 && inR cg 0 99)
theorem t_l4Asked {l : List Nod} (hl : Small l) (hN : 1048580 < N) (f : Fl) (room cu cg : Int) (k : Bool → Option R) : g_zcs N (nodsV l) f room cu cg k = k (askedB l room cu cg) := by
 rw [g_zcs_eq]
 unfold gb_zcs askedB
 rw [t_l3Good N hl hN, good_eq N hl hN, g_zdg_eq]
 unfold gb_zdg
 simp only [t_zdx]
 cases good0 l room <;> cases inR cu 0 99 <;> rfl
theorem t_isAsked {l : List Nod} (hl : Small l) (hN : 1048580 < N) (f : Fl) (room cu cg : Int) (k : Bool → Option R) : g_zcc N (nodsV l) f room cu cg k = k (askedB l room cu cg) := by
 rw [g_zcc_eq]
 unfold gb_zcc askedB
 rw [t_GoodFs N hl hN, g_zbq_eq]
 unfold gb_zbq
 rw [g_zdt_eq]
 unfold gb_zdt
 simp only [t_zdb]
 cases good0 l room <;> cases inR cu 0 99 <;> rfl
theorem asked_fine {l : List Nod} (hl : Small l) {room cu cg : Int} (h : askedB l room cu cg = true) : Fine l := by
 unfold askedB at h
 rw [Bool.and_eq_true] at h
 exact fine_of hl h.1
end Go.VM.VL
set_option linter.unusedSimpArgs false
set_option linter.unusedVariables false
namespace Go.VM.VL
open Go
variable {R : Type} (N : Nat)
theorem split_app (c : UInt8) (a b : List UInt8) : splitL c (a ++ c :: b) = splitL c a ++ splitL c b := by
 induction a with
 | nil => rw [List.nil_append, splitL_sep rfl]; rfl
 | cons x a ih =>
  rw [List.cons_append]
  by_cases h : x = c
  ·rw [splitL_sep h, splitL_sep h, ih, List.cons_append]
  ·rw [splitL_cons h, splitL_cons h, ih]
   cases hq : splitL c a with
   | nil => exact absurd hq (splitL_ne c a)
   | cons p ps => simp [glue]
theorem split_one (c : UInt8) : ∀ (b : List UInt8), (∀ x ∈ b, x ≠ c) → splitL c b = [b]
 | [], _ => rfl
 | x :: b, h => by
  rw [splitL_cons (h x (by simp)), split_one c b fun y hy => h y (by simp [hy])]
  rfl
def trimN (l : List UInt8) : Nat → Nat
 | 0 => 0
 | n + 1 => if at_ l n = 47 then trimN l n else n + 1
theorem trimN_le (l : List UInt8) : ∀ n, trimN l n ≤ n
 | 0 => Nat.le_refl 0
 | n + 1 => by
  unfold trimN
  split
  ·exact Nat.le_succ_of_le (trimN_le l n)
  ·exact Nat.le_refl _
def lastS (l : List UInt8) : Nat → Int
 | 0 => -1
 | n + 1 => if at_ l n = 47 then (n : Int) else lastS l n
theorem lastS_spec (l : List UInt8) : ∀ n, (lastS l n = -1 ∧ ∀ j, j < n → at_ l j ≠ 47) ∨ ∃ m : Nat, lastS l n = (m : Int) ∧ m < n ∧ at_ l m = 47 ∧ ∀ j, m < j → j < n → at_ l j ≠ 47
 | 0 => .inl ⟨rfl, fun j hj => by omega⟩
 | n + 1 => by
  unfold lastS
  split
  ·rename_i h
   exact .inr ⟨n, rfl, by omega, h, fun j h1 h2 => by omega⟩
  ·rename_i h
   rcases lastS_spec l n with ⟨h1, h2⟩ | ⟨m, h1, h2, h3, h4⟩
   ·refine .inl ⟨h1, fun j hj => ?_⟩
    by_cases hjn : j = n
    ·subst hjn; exact h
    ·exact h2 j (by omega)
   ·refine .inr ⟨m, h1, by omega, h3, fun j hj1 hj2 => ?_⟩
    by_cases hjn : j = n
    ·subst hjn; exact h
    ·exact h4 j hj1 (by omega)
theorem is47 {b : UInt8} : ((b.toNat : Int) == 47) = decide (b = 47) := by
 have := byte_eq (b := b) (c := 47)
 exact this
theorem t_LastIndex {w : ByteArray} (hw : w.size ≤ 1048576) (hN : 1048580 < N) (k : Int → Option R) : g_zas N w 47 k = k (lastS (bl w) (bl w).length) := by
 rw [g_zas_eq]
 unfold gb_zas
 rw [g_zag_eq]
 unfold gb_zag
 have key : ∀ (m n : Nat), m ≤ (bl w).length → m < n → l_zag_0 N w 47 (fun x3 => k x3) (fun (_ : Unit) => k (-1)) n ((m : Int) - 1) = k (lastS (bl w) m) := by
  intro m
  induction m with
  | zero =>
   intro n _ hn
   obtain ⟨n, rfl⟩ : ∃ q, n = q + 1 := ⟨n - 1, by omega⟩
   rw [l_zag_0, l_zag_0_step, decide_eq_false (by omega)]
   rfl
  | succ m ih =>
   intro n hm hn
   obtain ⟨n, rfl⟩ : ∃ q, n = q + 1 := ⟨n - 1, by omega⟩
   have e : (((m + 1 : Nat) : Int) - 1) = (m : Int) := by omega
   rw [l_zag_0, l_zag_0_step, e, decide_eq_true (by omega)]
   simp only
   rw [byteAt_nat w (by omega), is47, lastS]
   by_cases h : at_ (bl w) m = 47
   ·rw [decide_eq_true h, if_pos h]
   ·rw [decide_eq_false h, if_neg h]
    simp only
    have hs := size_bl w
    rw [wrap_i64 (by omega) (by omega)]
    exact ih n (by omega) (by omega)
 have hs := size_bl w
 rw [wrap_i64 (by omega) (by omega), hs]
 exact key (bl w).length N (Nat.le_refl _) (by omega)
theorem at_take {l : List UInt8} {n i : Nat} (h : i < n) : at_ (l.take n) i = at_ l i := by
 unfold at_
 rw [List.getD_eq_getElem?_getD, List.getD_eq_getElem?_getD, List.getElem?_take, if_pos h]
theorem t_trim {w : ByteArray} (hw : w.size ≤ 1048576) (hN : 1048580 < N) {m : Nat} (hm : m ≤ (bl w).length) (k : ByteArray → Option R) : g_zaw N (ba ((bl w).take m)) (ByteArray.mk #[47]) k = k (ba ((bl w).take (trimN (bl w) m))) := by
 rw [g_zaw_eq]
 unfold gb_zaw
 have hs := size_bl w
 have key : ∀ (m n : Nat), m ≤ (bl w).length → m < n → l_zat_0 N 47 (fun w3 => k w3) n (ba ((bl w).take m)) = k (ba ((bl w).take (trimN (bl w) m))) := by
  intro m
  induction m with
  | zero =>
   intro n _ hn
   obtain ⟨n, rfl⟩ : ∃ q, n = q + 1 := ⟨n - 1, by omega⟩
   rw [l_zat_0, l_zat_0_step, decide_eq_false (by rw [size_bl, bl_ba]; simp)]
   rfl
  | succ m ih =>
   intro n hm hn
   obtain ⟨n, rfl⟩ : ∃ q, n = q + 1 := ⟨n - 1, by omega⟩
   have hsz : (ba ((bl w).take (m + 1))).size = m + 1 := by rw [size_bl, bl_ba, List.length_take]; omega
   have e : (((ba ((bl w).take (m + 1))).size : Int) - 1) = (m : Int) := by rw [hsz]; omega
   rw [l_zat_0, l_zat_0_step, decide_eq_true (by rw [hsz]; omega)]
   simp only
   rw [e, wrap_i64 (by omega) (by omega), byteAt_nat _ (by rw [bl_ba, List.length_take]; omega), bl_ba, at_take (by omega), is47, trimN]
   by_cases h : at_ (bl w) m = 47
   ·rw [decide_eq_true h, if_pos h]
    simp only
    rw [if_pos ⟨by omega, by rw [hsz]; omega⟩, ext_extract, bl_ba, Int.toNat_natCast, List.take_take, Nat.min_eq_left (by omega), List.drop_zero]
    exact ih n (by omega) (by omega)
   ·rw [decide_eq_false h, if_neg h]
 have hone : ((((ByteArray.mk #[47]).size : Nat) : Int) == 1) = true := rfl
 have hb : byteAt (R := R) (ByteArray.mk #[47]) 0 = fun k => k 47 := rfl
 by_cases h0 : m = 0
 ·subst h0
  have : ((ba ((bl w).take 0)).toList == (ByteArray.mk #[]).toList) = true := by
   show emptyB _ = true
   rw [emptyB_iff]
   rfl
  rw [this]
  rfl
 ·have : ((ba ((bl w).take m)).toList == (ByteArray.mk #[]).toList) = false := by
   show emptyB _ = false
   rw [emptyB_iff, size_bl, bl_ba, List.length_take]
   exact decide_eq_false (by omega)
  rw [this]
  simp only
  have h2 : ((ByteArray.mk #[47]).toList == (ByteArray.mk #[]).toList) = false := by
   show emptyB _ = false
   rw [emptyB_iff]
   rfl
  rw [h2, hone]
  simp only [hb]
  rw [decide_eq_true (by omega)]
  simp only
  rw [g_zat_eq]
  unfold gb_zat
  exact key m N hm (by omega)
def aheadN (l : List UInt8) : Nat → Nat
 | 0 => 0
 | 1 => 1
 | n + 2 => if at_ l (n + 1) = 47 then aheadN l (n + 1) else n + 2
theorem ahead_trim {l : List UInt8} (h0 : at_ l 0 = 47) : ∀ n, 0 < n → aheadN l n = if trimN l n = 0 then 1 else trimN l n
 | 0, h => by omega
 | 1, _ => by simp [aheadN, trimN, h0]
 | n + 2, _ => by
  unfold aheadN
  rw [trimN]
  split
  ·exact ahead_trim h0 (n + 1) (by omega)
  ·simp
theorem aheadN_le (l : List UInt8) : ∀ n, aheadN l n ≤ n
 | 0 => Nat.le_refl 0
 | 1 => Nat.le_refl 1
 | n + 2 => by
  unfold aheadN
  split
  ·exact Nat.le_succ_of_le (aheadN_le l (n + 1))
  ·exact Nat.le_refl _
theorem t_ahead {w : ByteArray} (hw : w.size ≤ 1048576) (hN : 1048580 < N) {m : Nat} (hm : lastS (bl w) (bl w).length = (m : Int)) (k : ByteArray → Option R) : g_zcr N w k = k (ba ((bl w).take (aheadN (bl w) (m + 1)))) := by
 rw [g_zcr_eq]
 unfold gb_zcr
 have hs := size_bl w
 obtain ⟨m', h1, h2, h3, h4⟩ : ∃ m' : Nat, lastS (bl w) (bl w).length = (m' : Int) ∧ m' < (bl w).length ∧ at_ (bl w) m' = 47 ∧ ∀ j, m' < j → j < (bl w).length → at_ (bl w) j ≠ 47 := by
  rcases lastS_spec (bl w) (bl w).length with ⟨h, _⟩ | h
  ·rw [hm] at h; omega
  ·exact h
 have hmm : m' = m := by rw [hm] at h1; omega
 subst hmm
 have second : ∀ (x n : Nat), x ≤ (bl w).length → x < n → 0 < x → l_zcr_1 N w
    (fun x6 => (if (0 : Int) ≤ x6 ∧ x6 ≤ (w.size : Int) then k (ByteArray.extract w 0 ((x6 : Int).toNat)) else none)) n (x : Int) = k (ba ((bl w).take (aheadN (bl w) x))) := by
  intro x
  induction x with
  | zero => intro n _ _ h; omega
  | succ x ih =>
   intro n hx hn _
   obtain ⟨n, rfl⟩ : ∃ q, n = q + 1 := ⟨n - 1, by omega⟩
   rw [l_zcr_1, l_zcr_1_step]
   have fin : ∀ y : Nat, y ≤ (bl w).length → (if (0 : Int) ≤ (y : Int) ∧ (y : Int) ≤ (w.size : Int) then k (ByteArray.extract w 0 (((y : Nat) : Int).toNat)) else none) = k (ba ((bl w).take y)) := by
    intro y hy
    rw [if_pos ⟨by omega, by omega⟩, ext_extract, Int.toNat_natCast, List.drop_zero]
   by_cases hx1 : x = 0
   ·subst hx1
    rw [decide_eq_false (by omega)]
    exact fin 1 hx
   ·obtain ⟨y, rfl⟩ : ∃ y, x = y + 1 := ⟨x - 1, by omega⟩
    rw [decide_eq_true (by omega)]
    simp only
    have e : (((y + 1 + 1 : Nat) : Int) - 1) = ((y + 1 : Nat) : Int) := by omega
    rw [e, wrap_i64 (by omega) (by omega), byteAt_nat w (by omega), is47, aheadN]
    by_cases h : at_ (bl w) (y + 1) = 47
    ·rw [decide_eq_true h, if_pos h]
     exact ih n (by omega) (by omega) (by omega)
    ·rw [decide_eq_false h, if_neg h]
     exact fin _ hx
 have first : ∀ (d x n : Nat), m' + 1 + d = x → x ≤ (bl w).length → d < n → l_zcr_0 N w
   (fun x3 => l_zcr_1 N w (fun x6 => (if (0 : Int) ≤ x6 ∧ x6 ≤ (w.size : Int) then k (ByteArray.extract w 0 ((x6 : Int).toNat)) else none)) N x3) n (x : Int) = k (ba ((bl w).take (aheadN (bl w) (m' + 1)))) := by
  intro d
  induction d with
  | zero =>
   intro x n hx hl hn
   obtain ⟨n, rfl⟩ : ∃ q, n = q + 1 := ⟨n - 1, by omega⟩
   subst hx
   have e : (((m' + 1 + 0 : Nat) : Int) - 1) = (m' : Int) := by omega
   rw [l_zcr_0, l_zcr_0_step, e, wrap_i64 (by omega) (by omega), byteAt_nat w (by omega), bne, is47, decide_eq_true h3]
   exact second (m' + 1) N (by omega) (by omega) (by omega)
  | succ d ih =>
   intro x n hx hl hn
   obtain ⟨n, rfl⟩ : ∃ q, n = q + 1 := ⟨n - 1, by omega⟩
   subst hx
   have e : (((m' + 1 + (d + 1) : Nat) : Int) - 1) = ((m' + 1 + d : Nat) : Int) := by omega
   rw [l_zcr_0, l_zcr_0_step, e, wrap_i64 (by omega) (by omega), byteAt_nat w (by omega), bne, is47, decide_eq_false (h4 _ (by omega) (by omega))]
   exact ih _ n rfl (by omega) (by omega)
 rw [hs]
 exact first ((bl w).length - (m' + 1)) _ N (by omega) (Nat.le_refl _) (by omega)
end Go.VM.VL
set_option linter.unusedSimpArgs false
set_option linter.unusedVariables false
namespace Go.VM.VL
open Go
variable {R : Type} (N : Nat)
theorem findA_lt {l : List Nod} (hf : Fine l) {cu cg : Int} {w : ByteArray} {fol : Bool} {r : Int × Int} (hr : findA N l cu cg w fol = some r) : r.1 = ((r.1.toNat : Nat) : Int) ∧ r.1.toNat < l.length := by
 have hp := hf.pos
 unfold findA at hr
 split at hr
 ·split at hr
  ·cases hr
  ·obtain rfl := Option.some.inj hr
   exact ⟨rfl, hp⟩
  ·rename_i a hq
   obtain rfl := Option.some.inj hr
   have ha := run_lt hf N _ _ _ _ hf.pos (by omega) hq
   split
   ·exact ⟨rfl, hp⟩
   ·exact ⟨rfl, ha⟩
 ·obtain rfl := Option.some.inj hr
  exact ⟨rfl, hp⟩
def lastP (w : ByteArray) : ByteArray := ba ((bl w).drop ((lastS (bl w) (bl w).length).toNat + 1))
def aheadP (w : ByteArray) : ByteArray := ba ((bl w).take (aheadN (bl w) ((lastS (bl w) (bl w).length).toNat + 1)))
def placeA (l : List Nod) (cu cg : Int) (w : ByteArray) (r : Int × Int) (k : Int → ByteArray → Int → Option R) : Option R :=
 if r.2 != 0 then k 0 (ByteArray.mk #[]) r.2 else if (at_ l r.1.toNat).kind == 2 then (if mayB cu cg (at_ l r.1.toNat).mode (at_ l r.1.toNat).uid (at_ l r.1.toNat).gid 1 then k r.1 (lastP w) 0 else k 0 (ByteArray.mk #[]) 4) else k 0 (ByteArray.mk #[]) 3
def placeN (l : List Nod) (cu cg : Int) (w : ByteArray) (k : Int → ByteArray → Int → Option R) : Option R :=
 if wholeB w && nameB (lastP w) then match findA N l cu cg (aheadP w) true with
  | some r => placeA l cu cg w r k
  | none => none
 else k 0 (ByteArray.mk #[]) 1
theorem whole_root {w : ByteArray} (h : wholeB w = true) : at_ (bl w) 0 = 47 ∧ 1 ≤ w.size ∧ w.size ≤ 60 := by
 unfold wholeB at h
 rw [Bool.and_eq_true] at h
 have h1 := path_size h.1
 have h2 := h.2
 rw [is47] at h2
 exact ⟨of_decide_eq_true h2, h1⟩
theorem root_last {w : ByteArray} (h : at_ (bl w) 0 = 47) (h1 : 1 ≤ w.size) : ∃ m : Nat, lastS (bl w) (bl w).length = (m : Int) ∧ m < (bl w).length ∧ at_ (bl w) m = 47 ∧ ∀ j, m < j → j < (bl w).length → at_ (bl w) j ≠ 47 := by
 have hs := size_bl w
 rcases lastS_spec (bl w) (bl w).length with ⟨_, h2⟩ | h2
 ·exact absurd h (h2 0 (by omega))
 ·exact h2
theorem parts_last {w : ByteArray} (h : at_ (bl w) 0 = 47) (h1 : 1 ≤ w.size) (hne : 0 < (lastP w).size) : ∃ ps, partsB w = ps ++ [lastP w] := by
 obtain ⟨m, h2, h3, h4, h5⟩ := root_last h h1
 have e : bl w = (bl w).take m ++ 47 :: (bl w).drop (m + 1) := by
  have : (bl w).drop m = 47 :: (bl w).drop (m + 1) := by
   rw [List.drop_eq_getElem_cons h3]
   congr 1
   rw [← at_get h3]; exact h4
  rw [← this, List.take_append_drop]
 have hsuf : splitL 47 ((bl w).drop (m + 1)) = [(bl w).drop (m + 1)] := by
  apply split_one
  intro x hx
  obtain ⟨j, hj⟩ := List.getElem?_of_mem hx
  rw [List.getElem?_drop] at hj
  have hjl := (List.getElem?_eq_some_iff.1 hj).1
  have := h5 (m + 1 + j) (by omega) hjl
  rw [at_get hjl] at this
  rw [List.getElem?_eq_getElem hjl] at hj
  rw [← Option.some.inj hj]; exact this
 have hsp : splitB w = (splitL 47 ((bl w).take m)).map ba ++ [lastP w] := by
  unfold splitB lastP
  rw [h2, Int.toNat_natCast]
  conv => lhs; rw [e]
  rw [split_app, hsuf, List.map_append]
  rfl
 refine ⟨((splitL 47 ((bl w).take m)).map ba).filter fun p => !emptyB p, ?_⟩
 unfold partsB
 rw [hsp, List.filter_append]
 congr 1
 have : emptyB (lastP w) = false := by rw [emptyB_iff]; exact decide_eq_false (by omega)
 simp [this]
theorem name_size {w : ByteArray} (h : nameB w = true) : 0 < w.size := by
 unfold nameB partB at h
 simp only [Bool.and_eq_true] at h
 have := inR_iff.1 h.1.1.2
 omega
theorem name_dots {w : ByteArray} (h : nameB w = true) : dotB w = false ∧ dotsB w = false := by
 unfold nameB at h
 simp only [Bool.and_eq_true, Bool.not_eq_true'] at h
 exact ⟨h.1.2, h.2⟩
theorem clean_last {root : Bool} {ps : List ByteArray} {p : ByteArray} (h : nameB p = true) : cleanL root (ps ++ [p]) = cleanL root ps ++ [p] := by
 unfold cleanL
 rw [List.foldl_append]
 obtain ⟨h1, h2⟩ := name_dots h
 simp only [List.foldl_cons, List.foldl_nil, cleanS, h1, h2, Bool.false_eq_true, if_false]
theorem cleanF_len (root : Bool) : ∀ (ps xs : List ByteArray), (ps.foldl (cleanS root) xs).length ≤ xs.length + ps.length
 | [], xs => Nat.le_refl _
 | p :: ps, xs => by
  rw [List.foldl_cons]
  have h1 := cleanF_len root ps (cleanS root xs p)
  have h2 := cleanS_len root xs p
  rw [List.length_cons]
  omega
theorem at_last (cs : List ByteArray) (p : ByteArray) : at_ (cs ++ [p]) cs.length = p := by
 rw [at_get (by simp)]
 simp
theorem t_l2Last {w : ByteArray} (hw : w.size ≤ 1048576) (hN : 1048580 < N) (hr : at_ (bl w) 0 = 47) (h1 : 1 ≤ w.size) (hn : nameB (lastP w) = true) (k : ByteArray → Option R) : g_zdi N w k = k (lastP w) := by
 rw [g_zdi_eq]
 unfold gb_zdi
 obtain ⟨ps, hps⟩ := parts_last hr h1 (name_size hn)
 have hpl := partsB_len w
 have hcl := cleanF_len ((((at_ (bl w) 0).toNat : Nat) : Int) == 47) ps []
 rw [hps] at hpl
 simp only [List.length_append, List.length_cons, List.length_nil] at hpl hcl
 rw [t_l2Clean N hw h1 hN, hps, clean_last hn, len_strs]
 unfold cleanL
 generalize ps.foldl (cleanS ((((at_ (bl w) 0).toNat : Nat) : Int) == 47)) [] = cs at *
 have hl : (cs ++ [lastP w]).length = cs.length + 1 := by simp
 have e : IntKind.i64.wrap ((((cs ++ [lastP w]).length : Nat) : Int) - 1) = (cs.length : Int) := by
  rw [wrap_i64 (by omega) (by omega)]; omega
 have hz : ((((cs ++ [lastP w]).length : Nat) : Int) == 0) = false := by
  rw [hl]; exact beq_eq_false_iff_ne.2 (by omega)
 rw [hz]
 simp only
 rw [e, Int.toNat_natCast, nth_strs (by omega), at_last]
 simp only [must_some, asStr_str]
 have hd := (name_dots hn).2
 unfold dotsB at hd
 rw [if_pos (by omega), hd]
 simp only
 rw [if_pos (by omega)]
theorem at_end {w : ByteArray} (h1 : 1 ≤ w.size) (hw : w.size ≤ 1048576) (k : Int → Option R) : byteAt w (IntKind.i64.wrap ((w.size : Int) - 1)) k = k ((at_ (bl w) (w.size - 1)).toNat : Int) := by
 have hs := size_bl w
 have e : IntKind.i64.wrap ((w.size : Int) - 1) = ((w.size - 1 : Nat) : Int) := by rw [wrap_i64 (by omega) (by omega)]; omega
 rw [e, byteAt_nat w (by omega)]
theorem lastP_size {w : ByteArray} {m : Nat} (hm : lastS (bl w) (bl w).length = (m : Int)) : (lastP w).size = w.size - (m + 1) := by
 unfold lastP
 rw [hm, Int.toNat_natCast, size_bl, bl_ba, List.length_drop, ← size_bl]
theorem ahead_eq {w : ByteArray} (hr : at_ (bl w) 0 = 47) {m : Nat} (hm : lastS (bl w) (bl w).length = (m : Int)) (h47 : at_ (bl w) m = 47) : aheadP w = if emptyB (ba ((bl w).take (trimN (bl w) m))) then ByteArray.mk #[47] else ba ((bl w).take (trimN (bl w) m)) := by
 unfold aheadP
 rw [hm, Int.toNat_natCast, ahead_trim hr _ (by omega), trimN, if_pos h47]
 have hle := trimN_le (bl w) m
 have hm2 : m < (bl w).length := by
  rcases lastS_spec (bl w) (bl w).length with ⟨h, _⟩ | ⟨m', h, h2, _⟩
  ·rw [hm] at h; omega
  ·rw [hm] at h; omega
 have hml : 0 < (bl w).length := by omega
 by_cases h : trimN (bl w) m = 0
 ·have he : emptyB (ba ((bl w).take (trimN (bl w) m))) = true := by rw [emptyB_iff, h]; rfl
  rw [if_pos h, he, if_pos rfl]
  have : (bl w).take 1 = [47] := by
   cases hb : bl w with
   | nil => rw [hb] at hml; simp at hml
   | cons a l => rw [hb] at hr; simp [at_] at hr; simp [hr]
  rw [this]
  rfl
 ·have he : emptyB (ba ((bl w).take (trimN (bl w) m))) = false := by
   rw [emptyB_iff, size_bl, bl_ba, List.length_take]; exact decide_eq_false (by omega)
  rw [if_neg h, he]
  rfl
theorem aheadP_size {w : ByteArray} (hw : w.size ≤ 1048576) : (aheadP w).size ≤ 1048576 := by
 unfold aheadP
 rw [size_bl, bl_ba, List.length_take, ← size_bl]; omega
theorem t_l4Place {l : List Nod} (hf : Fine l) (hN : 1048580 < N) {w : ByteArray} (hw : w.size ≤ 1048576) (f : Fl) (room cu cg : Int) (k : Int → ByteArray → Int → Option R) : g_zct N (nodsV l) f room cu cg w k = placeN N l cu cg w k := by
 rw [g_zct_eq]
 unfold gb_zct placeN
 rw [t_l2Whole N hw hN]
 cases hwh : wholeB w with
 | false => rfl
 | true =>
  obtain ⟨hr, h1, h60⟩ := whole_root hwh
  obtain ⟨m, hm, hml, h47, hafter⟩ := root_last hr h1
  have hs := size_bl w
  simp only [Bool.not_true, Bool.true_and]
  rw [at_end h1 hw, is47]
  by_cases he : at_ (bl w) (w.size - 1) = 47
  ·rw [decide_eq_true he]
   have hmm : m = w.size - 1 := by
    apply Nat.le_antisymm (by omega)
    apply Nat.le_of_not_lt
    intro hlt
    exact hafter _ hlt (by omega) he
   have hz := lastP_size hm
   have hn : nameB (lastP w) = false := by
    cases hq : nameB (lastP w) with
    | false => rfl
    | true => have := name_size hq; omega
   rw [hn]
   rfl
  ·rw [decide_eq_false he]
   simp only
   have hm2 : m < w.size - 1 := by
    apply Nat.lt_of_le_of_ne (by omega)
    intro e
    rw [e] at h47
    exact he h47
   have hz := lastP_size hm
   obtain ⟨ps, hps⟩ := parts_last hr h1 (by omega)
   have hpl := partsB_len w
   rw [t_l2Parts N hw hN, len_strs, hps]
   rw [hps] at hpl
   have hl : (ps ++ [lastP w]).length = ps.length + 1 := by simp
   have e : IntKind.i64.wrap ((((ps ++ [lastP w]).length : Nat) : Int) - 1) = (ps.length : Int) := by
    rw [wrap_i64 (by omega) (by omega)]; omega
   rw [e, if_pos (by omega), Int.toNat_natCast, nth_strs (by omega), at_last]
   simp only [must_some, asStr_str]
   rw [t_zdj N (by omega) (by omega)]
   cases hn : nameB (lastP w) with
   | false => rfl
   | true =>
    simp only [Bool.not_true]
    rw [t_l2Last N hw hN hr h1 hn]
    have hem : ((lastP w).toList == (ByteArray.mk #[]).toList) = false := by
     show emptyB _ = false
     rw [emptyB_iff]; exact decide_eq_false (by have := name_size hn; omega)
    rw [hem]
    simp only
    rw [t_ahead N hw hN hm]
    have hap : ba ((bl w).take (aheadN (bl w) (m + 1))) = aheadP w := by unfold aheadP; rw [hm, Int.toNat_natCast]
    rw [hap]
    obtain ⟨r, hrr⟩ := find_ends N hf hN cu cg (aheadP w) true
    obtain ⟨g1, g2⟩ := findA_lt N hf hrr
    rw [t_l4Find N hf hN (aheadP_size hw) _ room cu cg true hrr, hrr]
    unfold placeA
    simp only [if_true]
    rw [if_pos (by omega), nth_nods g2]
    simp only [must_some, un_inod]
    rw [g_zds_eq]
    unfold gb_zds
    rw [if_pos (by omega), nth_nods g2]
    simp only [must_some, un_inod, t_spec_may N (hf.mode _ g2) (show (0 : Int) ≤ 1 ∧ (1 : Int) ≤ 7 by omega)]
    cases (r.2 != 0) <;> cases hk : ((at_ l r.1.toNat).kind == 2) <;> cases mayB cu cg (at_ l r.1.toNat).mode (at_ l r.1.toNat).uid (at_ l r.1.toNat).gid 1 <;> simp [bne, hk]
theorem t_place {l : List Nod} (hf : Fine l) (hN : 1048580 < N) {w : ByteArray} (hw : w.size ≤ 1048576) (f : Fl) (room cu cg : Int) (k : Int → ByteArray → Int → Option R) : g_zbp N (nodsV l) f room cu cg w k = placeN N l cu cg w k := by
 rw [g_zbp_eq]
 unfold gb_zbp placeN
 rw [t_LastIndex N hw hN, t_isWhole N hw hN]
 cases hwh : wholeB w with
 | false => rfl
 | true =>
  obtain ⟨hr, h1, h60⟩ := whole_root hwh
  obtain ⟨m, hm, hml, h47, hafter⟩ := root_last hr h1
  have hs := size_bl w
  simp only [Bool.not_true, Bool.true_and]
  have e : IntKind.i64.wrap ((m : Int) + 1) = ((m + 1 : Nat) : Int) := wrap_succ (by omega)
  have hlp : ByteArray.extract w (m + 1) w.size = lastP w := by
   unfold lastP
   rw [ext_extract, hm, Int.toNat_natCast, hs, List.take_length]
  rw [hm, e, if_pos ⟨by omega, by omega⟩, Int.toNat_natCast, hlp, t_GoodName N (by have := lastP_size hm; omega) (by omega)]
  cases hn : nameB (lastP w) with
  | false => rfl
  | true =>
   simp only [Bool.not_true]
   rw [if_pos ⟨by omega, by omega⟩, Int.toNat_natCast]
   have hx : ByteArray.extract w 0 m = ba ((bl w).take m) := by rw [ext_extract, List.drop_zero]
   rw [hx, t_trim N hw hN (by omega)]
   have hae := ahead_eq hr hm h47
   obtain ⟨r, hrr⟩ := find_ends N hf hN cu cg (aheadP w) true
   obtain ⟨g1, g2⟩ := findA_lt N hf hrr
   have both : ∀ (k2 : Int → Int → Option R), (match ((ba ((bl w).take (trimN (bl w) m))).toList == (ByteArray.mk #[]).toList) with
     | true => g_zcb N (nodsV l) f.noOwn.noOwn room cu cg (ByteArray.mk #[47]) true k2
     | false => g_zcb N (nodsV l) f.noOwn.noOwn room cu cg (ba ((bl w).take (trimN (bl w) m))) true k2) = k2 r.1 r.2 := by
    intro k2
    have hq : ((ba ((bl w).take (trimN (bl w) m))).toList == (ByteArray.mk #[]).toList) = emptyB (ba ((bl w).take (trimN (bl w) m))) := rfl
    rw [hq]
    have hsz := aheadP_size hw
    cases hb : emptyB (ba ((bl w).take (trimN (bl w) m))) with
    | true =>
     rw [hb, if_pos rfl] at hae
     rw [hae] at hrr hsz
     exact t_find N hf hN hsz _ room cu cg true hrr k2
    | false =>
     rw [hb] at hae
     simp only [Bool.false_eq_true, if_false] at hae
     rw [hae] at hrr hsz
     exact t_find N hf hN hsz _ room cu cg true hrr k2
   refine (both _).trans ?_
   rw [hrr]
   unfold placeA
   simp only [if_true]
   rw [g_zbm_eq]
   unfold gb_zbm
   rw [if_pos (by omega), nth_nods g2]
   simp only [must_some, un_inod]
   rw [g_zbo_eq]
   unfold gb_zbo
   rw [if_pos (by omega), nth_nods g2]
   simp only [must_some, un_inod, t_impl_may]
   rw [if_pos ⟨by omega, by omega⟩]
   cases (r.2 != 0) <;> cases hk : ((at_ l r.1.toNat).kind == 2) <;> cases mayB cu cg (at_ l r.1.toNat).mode (at_ l r.1.toNat).uid (at_ l r.1.toNat).gid 1 <;> simp [hk]
theorem place_self {l : List Nod} (hf : Fine l) (hN : 1048580 < N) (cu cg : Int) (w : ByteArray) : ∃ a b c, ∀ {R' : Type} (k' : Int → ByteArray → Int → Option R'), placeN N l cu cg w k' = k' a b c := by
 unfold placeN
 cases wholeB w && nameB (lastP w) with
 | false => exact ⟨0, ByteArray.mk #[], 1, fun _ => rfl⟩
 | true =>
  obtain ⟨r, hrr⟩ := find_ends N hf hN cu cg (aheadP w) true
  rw [hrr]
  unfold placeA
  cases h1 : (r.2 != 0) with
  | true => exact ⟨0, ByteArray.mk #[], r.2, fun _ => by simp [h1]⟩
  | false =>
   cases h2 : ((at_ l r.1.toNat).kind == 2) with
   | false => exact ⟨0, ByteArray.mk #[], 3, fun _ => by simp [h1, h2]⟩
   | true =>
    cases h3 : mayB cu cg (at_ l r.1.toNat).mode (at_ l r.1.toNat).uid (at_ l r.1.toNat).gid 1 with
    | false => exact ⟨0, ByteArray.mk #[], 4, fun _ => by simp [h1, h2, h3]⟩
    | true => exact ⟨r.1, lastP w, 0, fun _ => by simp [h1, h2, h3]⟩
theorem law_FnExactFindPlace {l : List Nod} (hl : FsOk l) (f : Fl) (room cu cg : Int) (w : ByteArray) (hw : w.size ≤ 9223372036854775807) (k : Bool → Option R) :
  gb_zar 1048600 (nodsV l) f room cu cg w k = k true := by
 unfold gb_zar
 by_cases h : (w.size : Int) > 1048576
 ·rw [decide_eq_true h]
 rw [decide_eq_false h]
 simp only
 rw [t_szFs 1048600 hl (by omega) _ _ _ (by omega) (by omega)]
 by_cases h2 : (fsSz l : Int) ≤ 1048576
 ·have hs := Small.of (l := l) (by omega)
  have hN : 1048580 < 1048600 := by omega
  have hN1 : 1048576 < 1048600 := by omega
  have hw2 : w.size ≤ 1048576 := by omega
  rw [left_ge h2, decide_eq_false (by omega)]
  simp only [t_toFs 1048600 hs hN1, t_toCred]
  rw [g_zbi_eq, g_zbd_eq]
  unfold gb_zbi gb_zbd
  simp only [t_l4Asked 1048600 hs hN, t_isAsked 1048600 hs hN]
  cases ha : askedB l room cu cg with
  | false => simp only [t_toFs 1048600 hs hN1, t_eqFs 1048600 hs hN1, bne_self_eq_false, beq_self_eq_true, Bool.not_true, Bool.not_false]
  | true =>
   have hf := asked_fine hs ha
   obtain ⟨a, b, c, hk⟩ := place_self 1048600 hf hN cu cg w
   simp only [Bool.not_true, t_l4Place 1048600 hf hN hw2, t_place 1048600 hf hN hw2, hk, t_toFs 1048600 hs hN1, t_eqFs 1048600 hs hN1, bne_self_eq_false, beq_self_eq_true, Bool.not_true]
 ·rw [left_lt h2]
  rfl
end Go.VM.VL
set_option linter.unusedSimpArgs false
set_option linter.unusedVariables false
namespace Go.VM.VL
open Go
def fieldsAre (fs : Array Field) (ts : List (TypeId × Nat)) : Prop := fs.toList.map (fun f => (f.type, f.offset)) = ts
theorem fields_of {P : Program} {n : Nat} {fs : Array Field} {ts : List (TypeId × Nat)} {ds : List V} (hfs : fieldsAre fs ts) (h2 : ∀ f ∈ fs.toList, fits P n f.type ((ds.drop f.offset).take (P.cellsOf f.type))) :
  ∀ p ∈ ts, fits P n p.1 ((ds.drop p.2).take (P.cellsOf p.1)) := by
 intro p hp
 rw [← hfs] at hp
 obtain ⟨f, hf, rfl⟩ := List.mem_map.1 hp
 exact h2 f hf
theorem field_int {P : Program} {n : Nat} {ds : List V} {t : TypeId} {o : Nat} (u : P.underlying t = some (.int .i64)) (c : P.cellsOf t = 1) (ho : o < ds.length) (h : fits P (n + 1) t ((ds.drop o).take (P.cellsOf t))) : ∃ z, nth ds o = some (.int .i64 z) := by
 obtain ⟨z, hz, _⟩ := fits_int u h
 rw [c, List.drop_eq_getElem_cons ho] at hz
 have hz' : [ds[o]] = [V.int .i64 z] := hz
 exact ⟨z, by rw [nth_get ho, (List.cons.inj hz').1]⟩
theorem field_str {P : Program} {n : Nat} {ds : List V} {t : TypeId} {o : Nat} (u : P.underlying t = some .string) (c : P.cellsOf t = 1) (ho : o < ds.length) (h : fits P (n + 1) t ((ds.drop o).take (P.cellsOf t))) : ∃ s, nth ds o = some (.str s) ∧ s.size ≤ maxLen := by
 obtain ⟨s, hz, hs⟩ := fits_string u h
 rw [c, List.drop_eq_getElem_cons ho] at hz
 have hz' : [ds[o]] = [V.str s] := hz
 exact ⟨s, by rw [nth_get ho, (List.cons.inj hz').1], hs⟩
theorem field_one {P : Program} {n : Nat} {ds : List V} {t : TypeId} {o : Nat} (c : P.cellsOf t = 1) (ho : o < ds.length) (h : fits P n t ((ds.drop o).take (P.cellsOf t))) : fits P n t [ds[o]] := by
 rw [c, List.drop_eq_getElem_cons ho] at h
 exact h
theorem ent_of {P : Program} {n tS tI : Nat} {fs : Array Field} {ds : List V} (hl : ds.length = 2) (hfs : fieldsAre fs [(tS, 0), (tI, 1)]) (uS : P.underlying tS = some .string) (uI : P.underlying tI = some (.int .i64)) (cS : P.cellsOf tS = 1) (cI : P.cellsOf tI = 1)
  (h2 : ∀ f ∈ fs.toList, fits P (n + 1) f.type ((ds.drop f.offset).take (P.cellsOf f.type))) : ∃ e : Ent, V.agg ds = entV e ∧ e.1.size ≤ maxLen := by
 have h3 := fields_of hfs h2
 obtain ⟨s, hs, hz⟩ := field_str (o := 0) uS cS (by omega) (h3 (tS, 0) (by simp))
 obtain ⟨z, hi⟩ := field_int (o := 1) uI cI (by omega) (h3 (tI, 1) (by simp))
 match ds, hl with
 | [x, y], _ =>
  obtain rfl := Option.some.inj hs
  obtain rfl := Option.some.inj hi
  exact ⟨(s, z), rfl, hz⟩
theorem nod_of {P : Program} {n tS tI tE tL : Nat} {fs fe : Array Field} {ds : List V} (hl : ds.length = 7) (hfs : fieldsAre fs [(tI, 0), (tI, 1), (tI, 2), (tI, 3), (tI, 4), (tS, 5), (tL, 6)]) (hfe : fieldsAre fe [(tS, 0), (tI, 1)])
  (uS : P.underlying tS = some .string) (uI : P.underlying tI = some (.int .i64)) (uL : P.underlying tL = some (.slice tE)) (uE : P.underlying tE = some (.struct fe)) (cS : P.cellsOf tS = 1) (cI : P.cellsOf tI = 1) (cL : P.cellsOf tL = 1) (cE : P.cellsOf tE = 2)
  (h2 : ∀ f ∈ fs.toList, fits P (n + 3) f.type ((ds.drop f.offset).take (P.cellsOf f.type))) : ∃ a : Nod, V.agg ds = nodV a ∧ (a.data.size ≤ maxLen ∧ a.es.length ≤ maxLen ∧ ∀ e ∈ a.es, e.1.size ≤ maxLen) := by
 have h3 := fields_of hfs h2
 obtain ⟨z0, i0⟩ := field_int (o := 0) uI cI (by omega) (h3 (tI, 0) (by simp))
 obtain ⟨z1, i1⟩ := field_int (o := 1) uI cI (by omega) (h3 (tI, 1) (by simp))
 obtain ⟨z2, i2⟩ := field_int (o := 2) uI cI (by omega) (h3 (tI, 2) (by simp))
 obtain ⟨z3, i3⟩ := field_int (o := 3) uI cI (by omega) (h3 (tI, 3) (by simp))
 obtain ⟨z4, i4⟩ := field_int (o := 4) uI cI (by omega) (h3 (tI, 4) (by simp))
 obtain ⟨s, hs, hz⟩ := field_str (o := 5) uS cS (by omega) (h3 (tS, 5) (by simp))
 have hL := field_one cL (show 6 < ds.length by omega) (h3 (tL, 6) (by simp))
 obtain ⟨l, he, hel, hq⟩ := fits_structs (f := entV) (q := fun e : Ent => e.1.size ≤ maxLen) uL uE (fun ds h1 h2 => ent_of (n := n) (h1.trans cE) hfe uS uI cS cI h2) hL
 obtain ⟨x0, x1, x2, x3, x4, x5, x6, rfl⟩ : ∃ x0 x1 x2 x3 x4 x5 x6, ds = [x0, x1, x2, x3, x4, x5, x6] := by
  clear hL he h3 h2 i0 i1 i2 i3 i4 hs
  match ds, hl with
  | [x0, x1, x2, x3, x4, x5, x6], _ => exact ⟨x0, x1, x2, x3, x4, x5, x6, rfl⟩
 obtain rfl := Option.some.inj i0
 obtain rfl := Option.some.inj i1
 obtain rfl := Option.some.inj i2
 obtain rfl := Option.some.inj i3
 obtain rfl := Option.some.inj i4
 obtain rfl := Option.some.inj hs
 have he' : x6 = .list (P.cellsOf tE) (l.map entV) .sh := he
 rw [cE] at he'
 subst he'
 exact ⟨⟨z0, z1, z2, z3, z4, s, l⟩, rfl, hz, hel, hq⟩
theorem fs_of {P : Program} {n tS tI tE tL tN tM : Nat} {ff fs fe : Array Field} {ds : List V} (hl : ds.length = 2) (hff : fieldsAre ff [(tM, 0), (tI, 1)]) (hfs : fieldsAre fs [(tI, 0), (tI, 1), (tI, 2), (tI, 3), (tI, 4), (tS, 5), (tL, 6)]) (hfe : fieldsAre fe [(tS, 0), (tI, 1)])
  (uM : P.underlying tM = some (.slice tN)) (uN : P.underlying tN = some (.struct fs)) (uS : P.underlying tS = some .string) (uI : P.underlying tI = some (.int .i64)) (uL : P.underlying tL = some (.slice tE)) (uE : P.underlying tE = some (.struct fe))
  (cM : P.cellsOf tM = 1) (cN : P.cellsOf tN = 7) (cS : P.cellsOf tS = 1) (cI : P.cellsOf tI = 1) (cL : P.cellsOf tL = 1) (cE : P.cellsOf tE = 2)
  (h2 : ∀ f ∈ ff.toList, fits P (n + 5) f.type ((ds.drop f.offset).take (P.cellsOf f.type))) : ∃ (l : List Nod) (room : Int), ds = [.list 7 (nodsV l) .sh, .int .i64 room] ∧ FsOk l := by
 have h3 := fields_of hff h2
 obtain ⟨z, hi⟩ := field_int (o := 1) uI cI (by omega) (h3 (tI, 1) (by simp))
 have hL := field_one cM (show 0 < ds.length by omega) (h3 (tM, 0) (by simp))
 obtain ⟨l, he, hel, hq⟩ := fits_structs (f := nodV) (q := fun a : Nod => a.data.size ≤ maxLen ∧ a.es.length ≤ maxLen ∧ ∀ e ∈ a.es, e.1.size ≤ maxLen) uM uN (fun ds h1 h2 => nod_of (n := n) (h1.trans cN) hfs hfe uS uI uL uE cS cI cL cE h2) hL
 obtain ⟨x, y, rfl⟩ : ∃ x y, ds = [x, y] := by
  clear hL he h3 h2 hi
  match ds, hl with
  | [x, y], _ => exact ⟨x, y, rfl⟩
 ·obtain rfl := Option.some.inj hi
  have he' : x = .list (P.cellsOf tN) (l.map nodV) .sh := he
  rw [cN] at he'
  subst he'
  exact ⟨l, z, rfl, hel, fun i hi => by
   have := hq _ (at_mem hi)
   exact ⟨this.1, this.2.1, fun j hj => this.2.2 _ (at_mem hj)⟩⟩
theorem cred_of {P : Program} {n tI : Nat} {ff : Array Field} {ds : List V} (hl : ds.length = 2) (hff : fieldsAre ff [(tI, 0), (tI, 1)]) (uI : P.underlying tI = some (.int .i64)) (cI : P.cellsOf tI = 1)
  (h2 : ∀ f ∈ ff.toList, fits P (n + 1) f.type ((ds.drop f.offset).take (P.cellsOf f.type))) : ∃ a b : Int, ds = [.int .i64 a, .int .i64 b] := by
 have h3 := fields_of hff h2
 obtain ⟨z0, i0⟩ := field_int (o := 0) uI cI (by omega) (h3 (tI, 0) (by simp))
 obtain ⟨z1, i1⟩ := field_int (o := 1) uI cI (by omega) (h3 (tI, 1) (by simp))
 match ds, hl with
 | [x, y], _ =>
  obtain rfl := Option.some.inj i0
  obtain rfl := Option.some.inj i1
  exact ⟨z0, z1, rfl⟩
end Go.VM.VL
