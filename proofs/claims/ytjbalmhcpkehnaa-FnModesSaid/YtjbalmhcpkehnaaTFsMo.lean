/- The plain laws of the printed functions, from the bottom up to the law itself. -/
import Derived.Test.YtjbalmhcpkehnaaXM
import Derived.Test.YtjbalmhcpkehnaaTLib
import Derived.Test.YtjbalmhcpkehnaaVmZc
import Derived.Test.YtjbalmhcpkehnaaVmZe
import Derived.Lib.Bytealg
import Derived.Lib.IndexLaws
set_option linter.unusedSimpArgs false
set_option linter.unusedVariables false
namespace Go.VM.VL
open Go
section
section loops
variable {R β : Type} {l : Nat → Nat → Option R} {len : Nat} {k0 k1 : Option R}
theorem Zmx (hs : ∀ n i, i < len → l (n + 1) i = l n (i + 1)) (he : ∀ n, l (n + 1) len = k1) : ∀ (d n i : Nat), i + d = len → d < n → l n i = k1 := by
 intro d
 induction d with
 | zero =>
  intro n i hi hn
  obtain ⟨n, rfl⟩ : ∃ m, n = m + 1 := ⟨n - 1, by omega⟩
  obtain rfl : i = len := by omega
  exact he n
 | succ d ih =>
  intro n i hi hn
  obtain ⟨n, rfl⟩ : ∃ m, n = m + 1 := ⟨n - 1, by omega⟩
  rw [hs n i (by omega)]
  exact ih n (i + 1) (by omega) (by omega)
theorem Ze3 (hs : ∀ n i, i < len → l (n + 1) i = l n (i + 1)) (he : ∀ n, l (n + 1) len = k1) {N : Nat} (hN : len < N) : l N 0 = k1 :=
 Zmx hs he len N 0 (by omega) hN
theorem Zj5 {q : Nat → Option β} {kb : β → Option R} (hs : ∀ n i, i < len → (∀ j, j < i → q j = none) → l (n + 1) i = match q i with | some b => kb b | none => l n (i + 1)) (he : (∀ j, j < len → q j = none) → ∀ n, l (n + 1) len = k1) :
  ∀ (d n i : Nat), i + d = len → d < n → (∀ j, j < i → q j = none) → l n i = match (List.range' i d).findSome? q with | some b => kb b | none => k1 := by
 intro d
 induction d with
 | zero =>
  intro n i hi hn hq
  obtain ⟨n, rfl⟩ : ∃ m, n = m + 1 := ⟨n - 1, by omega⟩
  obtain rfl : i = len := by omega
  rw [he hq n]; rfl
 | succ d ih =>
  intro n i hi hn hq
  obtain ⟨n, rfl⟩ : ∃ m, n = m + 1 := ⟨n - 1, by omega⟩
  rw [hs n i (by omega) hq, List.range'_succ, List.findSome?_cons]
  cases h : q i with
  | none => exact ih n (i + 1) (by omega) (by omega) fun j hj => (by
    rcases Nat.lt_or_ge j i with h2 | h2
    ·exact hq j h2
    ·obtain rfl : j = i := by omega
     exact h)
  | some b => rfl
theorem ZcA {q : Nat → Option β} {kb : β → Option R} (hs : ∀ n i, i < len → (∀ j, j < i → q j = none) → l (n + 1) i = match q i with | some b => kb b | none => l n (i + 1)) (he : (∀ j, j < len → q j = none) → ∀ n, l (n + 1) len = k1) {N : Nat} (hN : len < N) :
  l N 0 = match (List.range' 0 len).findSome? q with | some b => kb b | none => k1 :=
 Zj5 hs he len N 0 (by omega) hN fun j hj => absurd hj (by omega)
theorem Zpo {p : Nat → Bool} (hs : ∀ n i, i < len → (∀ j, j < i → p j = true) → l (n + 1) i = if p i then l n (i + 1) else k0) (he : (∀ j, j < len → p j = true) → ∀ n, l (n + 1) len = k1) {N : Nat} (hN : len < N) :
  l N 0 = if (List.range' 0 len).all p then k1 else k0 := by
 have := ZcA (l := l) (len := len) (k1 := k1) (q := fun i => if p i then none else some ()) (kb := fun _ => k0)
  (fun n i hi hq => by
   rw [hs n i hi fun j hj => by
    have := hq j hj
    cases hp : p j with
    | true => rfl
    | false => simp [hp] at this]
   cases p i <;> rfl)
  (fun hq n => he (fun j hj => by
   have := hq j hj
   cases hp : p j with
   | true => rfl
   | false => simp [hp] at this) n) hN
 rw [this]
 generalize List.range' 0 len = L
 clear this hs he
 induction L with
 | nil => rfl
 | cons a L ih =>
  rw [List.findSome?_cons, List.all_cons]
  cases hp : p a with
  | false => simp
  | true => simpa using ih
theorem Zij {p : Nat → Bool} {len : Nat} : (List.range' 0 len).all p = true ↔ ∀ i, i < len → p i = true := by
 rw [List.all_eq_true]
 exact ⟨fun h i hi => h i (by rw [List.mem_range']; exact ⟨i, hi, by omega⟩), fun h i hi => by
  rw [List.mem_range'] at hi
  obtain ⟨j, hj, rfl⟩ := hi
  exact h _ (by omega)⟩
theorem ZfT {q : Nat → Option β} {len : Nat} : (List.range' 0 len).findSome? q = none ↔ ∀ i, i < len → q i = none := by
 rw [List.findSome?_eq_none_iff]
 exact ⟨fun h i hi => h i (by rw [List.mem_range']; exact ⟨i, hi, by omega⟩), fun h i hi => by
  rw [List.mem_range'] at hi
  obtain ⟨j, hj, rfl⟩ := hi
  exact h _ (by omega)⟩
end loops
theorem ZkF {α β : Type} (f : α → β) (l : List α) (i : Nat) : nth (l.map f) i = (nth l i).map f := by rw [Zac, Zac, List.getElem?_map]
theorem Zrk {α β : Type} (f : α → β) (l : List α) (i : Nat) (v : α) : ZaC (l.map f) i (f v) = (ZaC l i v).map f := by rw [Za2, Za2, List.map_set]
theorem ZnQ {α : Type} {l : List α} {i : Nat} (h : i < l.length) : nth l i = some l[i] := by rw [Zac, List.getElem?_eq_getElem h]
theorem ZpE {α : Type} {l : List α} {i : Nat} {v : α} (h : i < l.length) : nth (ZaC l i v) i = some v := by rw [Zac, Za2, List.getElem?_set_self h]
theorem ZhC {α : Type} {f : α → Option α} : ∀ {l : List α}, (∀ v ∈ l, f v = some v) → ZaV f l = some l
 | [], _ => rfl
 | a :: l, h => by
  simp only [ZaV, h a (by simp), ZhC (l := l) fun v hv => h v (by simp [hv])]
def inR (a b c : Int) : Bool := decide (b ≤ a) && decide (a ≤ c)
theorem ZdC {a b c : Int} : inR a b c = true ↔ b ≤ a ∧ a ≤ c := by simp [inR]
theorem Zbv {i : Nat} (h : i < 9223372036854775807) : IntKind.i64.wrap ((i : Int) + 1) = ((i + 1 : Nat) : Int) := by
 rw [ZaO (by omega) (by omega)]; rfl
theorem ZpW {i n : Nat} (h : i < n) : decide ((i : Int) < (n : Int)) = true := decide_eq_true (by omega)
def Zmn (l : List ByteArray) : List V := l.map V.str
def ZdY (l : List Int) : List V := l.map (V.int .i64)
def at_ {α : Type} [Inhabited α] (l : List α) (i : Nat) : α := l.getD i default
theorem ZeD {α : Type} [Inhabited α] {l : List α} {i : Nat} (h : i < l.length) : at_ l i = l[i] := by
 simp [at_, List.getD_eq_getElem?_getD, List.getElem?_eq_getElem h]
theorem ZqS {α : Type} [Inhabited α] {l : List α} {i : Nat} (h : i < l.length) : at_ l i ∈ l := by rw [ZeD h]; exact List.getElem_mem h
theorem ZoQ (l : List ByteArray) : (Zmn l).length = l.length := by simp [Zmn]
theorem Zr1 (l : List Int) : (ZdY l).length = l.length := by simp [ZdY]
theorem Zon {l : List ByteArray} {i : Nat} (h : i < l.length) : nth (Zmn l) i = some (.str (at_ l i)) := by rw [Zmn, ZkF, ZnQ h, ZeD h]; rfl
theorem ZkZ {l : List Int} {i : Nat} (h : i < l.length) : nth (ZdY l) i = some (.int .i64 (at_ l i)) := by rw [ZdY, ZkF, ZnQ h, ZeD h]; rfl
variable {R : Type}
theorem Zaf (v : V) (k : V → Option R) : ZbV (some v) k = k v := rfl
theorem Zm1 (b : ByteArray) (k : ByteArray → Option R) : Zb2 (.str b) k = k b := rfl
theorem Zib (n : Int) (k : Int → Option R) : asInt .i64 (.int .i64 n) k = k n := rfl
theorem Zqv (b : Bool) (k : Bool → Option R) : asBool (.bool b) k = k b := rfl
variable (N : Nat)
end
section
open Go
abbrev bl (w : ByteArray) : List UInt8 := w.data.toList
def ba (l : List UInt8) : ByteArray := ⟨⟨l⟩⟩
theorem Zl3 (w : ByteArray) : ba (bl w) = w := rfl
theorem Ztz (l : List UInt8) : bl (ba l) = l := rfl
theorem Zbd (w : ByteArray) : w.size = (bl w).length := Array.length_toList.symm
theorem Zbu (w : ByteArray) (a b : Nat) : bl (ByteArray.extract w a b) = ((bl w).take b).drop a := by
 rw [bl, ByteArray.data_extract, Array.toList_extract, List.extract_eq_take_drop, List.drop_take]
theorem ZqJ (w : ByteArray) (a b : Nat) : ByteArray.extract w a b = ba (((bl w).take b).drop a) := by rw [← Zbu]; rfl
variable {R : Type} (N : Nat)
theorem ZaS (w : ByteArray) {i : Nat} (h : i < (bl w).length) (k : Int → Option R) : ZbC w (i : Int) k = k ((at_ (bl w) i).toNat : Int) := by
 unfold ZbC
 rw [if_pos (by omega), Int.toNat_natCast]
 have e : w.data[i]? = some (bl w)[i] := by rw [← Array.getElem?_toList, List.getElem?_eq_getElem h]
 rw [e, ZeD h]
theorem ZsD (a b c : Int) (k : Bool → Option R) : Zoi N a b c k = k (inR a b c) := by
 rw [Zkk]
 unfold Zh0 inR
 by_cases h : b ≤ a
 ·rw [decide_eq_true (show a ≥ b from h)]; simp
 ·rw [decide_eq_false (show ¬ a ≥ b from h)]; simp
theorem ZsK (a b c : Int) (k : Bool → Option R) : ZoR N a b c k = k (inR a b c) := by
 rw [Zku]
 unfold ZhQ inR
 by_cases h : b ≤ a
 ·rw [decide_eq_true (show a ≥ b from h)]; simp
 ·rw [decide_eq_false (show ¬ a ≥ b from h)]; simp
end
section
open Go
variable {R : Type} (N : Nat)
theorem Zf7 (a b : ByteArray) : bl (a ++ b) = bl a ++ bl b := by
 unfold bl
 rw [ByteArray.data_append, Array.toList_append]
end
section
open Go.Proofs
open Go.Proofs
def Zbr (e : List V) : Prop := ∀ i v, nth e i = some v → ∃ n : Int, v = .int .u8 n ∧ 0 ≤ n ∧ n < 256
theorem isBytes_of {xs : List Int} (h : ∀ x ∈ xs, (Lit.int .u8 x).wf = true) : Zbr (xs.map (V.int .u8)) := by
 intro i v hv
 rw [Zac, List.getElem?_map] at hv
 cases hx : xs[i]? with
 | none => rw [hx] at hv; cases hv
 | some x =>
  rw [hx] at hv
  have := Zte (h x (List.mem_of_getElem? hx))
  exact ⟨x, (Option.some.inj hv).symm, this.1, this.2⟩
def ZaX : Int := 4611686018427387904
theorem ZoG {α : Type} {l : List α} {i : Nat} (h : i < l.length) : ∃ a, nth l i = some a := ⟨l[i], by rw [Zac, List.getElem?_eq_getElem h]⟩
theorem Zm6 (N : Nat) {e : List V} (he : Zbr e) (f : Fl) {at_ : Int} (seed : Int) (h0 : 0 ≤ at_) (h1 : at_ < ZaX) :
  ∃ v seed' : Int, 0 ≤ v ∧ v < 256 ∧ ∀ (R : Type) (k : Int → List V → Fl → Int → Int → Option R), ZlM N e f at_ seed k = k v e f (at_ + 1) seed' := by
 unfold ZaX at h1
 have hw : IntKind.i64.wrap (at_ + 1) = at_ + 1 := ZaO (by omega) (by omega)
 have hb : ∀ y : Int, ∃ v : Int, 0 ≤ v ∧ v < 256 ∧ IntKind.i64.wrap (IntKind.u64.wrap (BitVec.ofInt IntKind.u64.bits y &&& BitVec.ofInt IntKind.u64.bits 255).toNat) = v := by
  intro y
  have hle : (BitVec.ofInt IntKind.u64.bits y &&& BitVec.ofInt IntKind.u64.bits 255).toNat ≤ 255 := by
   rw [BitVec.toNat_and]; exact Nat.and_le_right
  refine ⟨_, ?_, ?_, rfl⟩
  ·rw [Zhl (by omega) (by omega), ZaO (by omega) (by omega)]; omega
  ·rw [Zhl (by omega) (by omega), ZaO (by omega) (by omega)]; omega
 by_cases hlt : at_ < (e.length : Int)
 ·obtain ⟨u, hu⟩ := ZoG (l := e) (i := at_.toNat) (by omega)
  obtain ⟨n, rfl, hn0, hn1⟩ := he _ _ hu
  have hn : IntKind.i64.wrap n = n := ZaO (by omega) (by omega)
  refine ⟨n, IntKind.u64.wrap (IntKind.u64.wrap (IntKind.u64.wrap (seed * 6364136223846793005) + IntKind.u64.wrap (IntKind.i64.wrap n)) + 1442695040888963407), hn0, hn1, fun R k => ?_⟩
  rw [Zhm]
  unfold ZfY
  rw [decide_eq_true hlt]
  simp only [if_pos h0, hu, ZbV, asInt, if_true, hw]
  rw [decide_eq_true (by omega)]
  simp only [hn]
 ·rcases Classical.em (at_ + 1 ≤ (e.length : Int)) with h2 | h2
  ·omega
  ·obtain ⟨v, hv0, hv1, hv⟩ := hb (Int.fdiv (IntKind.u64.wrap (IntKind.u64.wrap (IntKind.u64.wrap (seed * 6364136223846793005) + 0) + 1442695040888963407)) (2 ^ (min (40 : Int).toNat 64)))
   refine ⟨v, IntKind.u64.wrap (IntKind.u64.wrap (IntKind.u64.wrap (seed * 6364136223846793005) + 0) + 1442695040888963407), hv0, hv1, fun R k => ?_⟩
   rw [Zhm]
   unfold ZfY
   rw [decide_eq_false hlt]
   simp only [hw]
   rw [decide_eq_false h2]
   simp only [hv]
theorem Zd7 (N : Nat) {e : List V} (he : Zbr e) (f : Fl) {at_ : Int} (seed n : Int) (h0 : 0 ≤ at_) (h1 : at_ + 2 ≤ ZaX) :
  ∃ v at' seed' : Int, 0 ≤ v ∧ (v = 0 ∨ v < n) ∧ at_ ≤ at' ∧ at' ≤ at_ + 2 ∧ ∀ (R : Type) (k : Int → List V → Fl → Int → Int → Option R), ZeJ N n e f at_ seed k = k v e f at' seed' := by
 by_cases hn : n ≤ 1
 ·refine ⟨0, at_, seed, by omega, .inl rfl, by omega, by omega, fun R k => ?_⟩
  rw [Ze1]
  unfold Zfw
  rw [decide_eq_true hn]
 ·obtain ⟨v1, s1, a1, a2, a3⟩ := Zm6 N he f seed h0 (by unfold ZaX at *; omega)
  obtain ⟨v2, s2, b1, b2, b3⟩ := Zm6 N he f s1 (at_ := at_ + 1) (by omega) (by unfold ZaX at *; omega)
  have hn0 : ¬ n = 0 := by omega
  by_cases h200 : n > 200
  ·refine ⟨Int.tmod (IntKind.i64.wrap (IntKind.i64.wrap (v1 * 256) + v2)) n, at_ + 1 + 1, s2, ?_, .inr ?_, by omega, by omega, fun R k => ?_⟩
   ·rw [ZaO (x := v1 * 256) (by omega) (by omega), ZaO (by omega) (by omega)]
    exact Int.tmod_nonneg _ (by omega)
   ·exact Int.tmod_lt_of_pos _ (by omega)
   ·rw [Ze1]
    unfold Zfw
    rw [decide_eq_false hn]
    simp only [a3]
    rw [decide_eq_true h200]
    simp only [b3, if_neg hn0]
  ·refine ⟨Int.tmod v1 n, at_ + 1, s1, Int.tmod_nonneg _ (by omega), .inr (Int.tmod_lt_of_pos _ (by omega)), by omega, by omega, fun R k => ?_⟩
   rw [Ze1]
   unfold Zfw
   rw [decide_eq_false hn]
   simp only [a3]
   rw [decide_eq_false h200]
   simp only [if_neg hn0]
theorem Zp6 (N : Nat) {e : List V} (he : Zbr e) (f : Fl) {at_ : Int} (seed n : Int) (h0 : 0 ≤ at_) (h1 : at_ + 2 ≤ ZaX) :
  ∃ (v : Bool) (at' seed' : Int), at_ ≤ at' ∧ at' ≤ at_ + 2 ∧ ∀ (R : Type) (k : Bool → List V → Fl → Int → Int → Option R), ZlF N n e f at_ seed k = k v e f at' seed' := by
 obtain ⟨v, a, s, q1, q2, q3, q4, q5⟩ := Zd7 N he f seed n h0 h1
 refine ⟨v == 0, a, s, q3, q4, fun R k => ?_⟩
 rw [Zkz]
 unfold ZhF
 rw [q5]
theorem ZqC (N : Nat) {e : List V} (he : Zbr e) (f : Fl) {at_ : Int} (seed : Int) (xs : List Int) (g : Fl) (hx : xs ≠ []) (h0 : 0 ≤ at_) (h1 : at_ + 2 ≤ ZaX) :
  ∃ v at' seed' : Int, v ∈ xs ∧ at_ ≤ at' ∧ at' ≤ at_ + 2 ∧ ∀ (R : Type) (k : Int → List V → Fl → Int → Int → Option R), Zor N (xs.map (V.int .i64)) g e f at_ seed k = k v e f at' seed' := by
 obtain ⟨v, a, s, q1, q2, q3, q4, q5⟩ := Zd7 N he f seed ((xs.map (V.int .i64)).length : Int) h0 h1
 have hpos : 0 < xs.length := List.length_pos_iff.2 hx
 have hlt : v.toNat < xs.length := by
  rw [List.length_map] at q2
  omega
 refine ⟨xs[v.toNat], a, s, List.getElem_mem _, q3, q4, fun R k => ?_⟩
 rw [Zk1]
 unfold ZhB
 rw [q5]
 have hn : nth (xs.map (V.int .i64)) v.toNat = some (.int .i64 xs[v.toNat]) := by
  rw [Zac, List.getElem?_map, List.getElem?_eq_getElem hlt]; rfl
 simp only [if_pos q1, hn, ZbV, asInt, if_true]
theorem Zk7 (N : Nat) {e : List V} (he : Zbr e) (f : Fl) {at_ : Int} (seed : Int) (h0 : 0 ≤ at_) (h1 : at_ + 5 ≤ ZaX) :
  ∃ v at' seed' : Int, 0 ≤ v ∧ v < 512 ∧ at_ ≤ at' ∧ at' ≤ at_ + 5 ∧ ∀ (R : Type) (k : Int → List V → Fl → Int → Int → Option R), Zj6 N e f at_ seed k = k v e f at' seed' := by
 unfold ZaX at *
 obtain ⟨b, a1, s1, p1, p2, p3⟩ := Zp6 N he f seed 2 h0 (by unfold ZaX; omega)
 cases b with
 | true =>
  obtain ⟨v, a2, s2, q1, q2, q3, q4⟩ := ZqC N he f s1 [493, 420, 448, 511, 0, 365, 73] .sh (by simp) (at_ := a1) (by omega) (by unfold ZaX; omega)
  have hv : 0 ≤ v ∧ v < 512 := by
   simp only [List.mem_cons, List.mem_nil_iff, or_false] at q1
   omega
  refine ⟨v, a2, s2, hv.1, hv.2, by omega, by omega, fun R k => ?_⟩
  rw [ZgP]
  unfold Zgd
  rw [p3]
  exact q4 R k
 | false =>
  obtain ⟨v, s2, q1, q2, q3⟩ := Zm6 N he f s1 (at_ := a1) (by omega) (by unfold ZaX; omega)
  obtain ⟨u, a3, s3, r1, r2, r3, r4, r5⟩ := Zd7 N he f s2 2 (at_ := a1 + 1) (by omega) (by unfold ZaX; omega)
  refine ⟨Int.tmod (IntKind.i64.wrap (IntKind.i64.wrap (v * 2) + u)) 512, a3, s3, ?_, ?_, by omega, by omega, fun R k => ?_⟩
  rotate_left 2
  ·rw [ZgP]
   unfold Zgd
   rw [p3]
   simp only
   rw [q3, r5]
  ·rw [ZaO (x := v * 2) (by omega) (by omega), ZaO (by omega) (by omega)]
   exact Int.tmod_nonneg _ (by omega)
  ·exact Int.tmod_lt_of_pos _ (by omega)
end
open Go
section
variable (N : Nat)
theorem ZsL {e : List V} (he : Zbr e) (f : Fl) {at0 : Int} (seed : Int) (xs : List ByteArray) (g : Fl) (hx : xs ≠ []) (h0 : 0 ≤ at0) (h1 : at0 + 2 ≤ ZaX) :
  ∃ v at' seed', v ∈ xs ∧ at0 ≤ at' ∧ at' ≤ at0 + 2 ∧ ∀ (R : Type) (k : ByteArray → List V → Fl → Int → Int → Option R), Zlz N (Zmn xs) g e f at0 seed k = k v e f at' seed' := by
 obtain ⟨v, a, s, q1, q2, q3, q4, q5⟩ := Zd7 N he f seed ((Zmn xs).length : Int) h0 h1
 have hpos : 0 < xs.length := List.length_pos_iff.2 hx
 have hlt : v.toNat < xs.length := by
  rw [ZoQ] at q2
  omega
 refine ⟨at_ xs v.toNat, a, s, ZqS hlt, q3, q4, fun R k => ?_⟩
 rw [Zkh]
 unfold Zhq
 rw [q5]
 simp only [if_pos q1, Zon hlt, Zaf, Zm1]
theorem Zb9 (a b : ByteArray) : (a ++ b).size = a.size + b.size := by
 rw [Zbd, Zf7, List.length_append, ← Zbd, ← Zbd]
theorem ZcM (w : ByteArray) (a b : Nat) : (ByteArray.extract w a b).size ≤ w.size := by
 rw [Zbd, Zbu, List.length_drop, List.length_take, ← Zbd]; omega
theorem ZiD (w : ByteArray) (a b : Nat) : (ByteArray.extract w 0 a).size + (ByteArray.extract w b w.size).size ≤ a + (w.size - b) := by
 rw [Zbd, Zbd, Zbu, Zbu, List.length_drop, List.length_drop, List.length_take, List.length_take, ← Zbd]; omega
theorem ZiY {e : List V} (he : Zbr e) (f : Fl) {b : ByteArray} (hb : 0 < b.size) (hb2 : b.size ≤ 1000) : ∀ (d n : Nat) (w : ByteArray) (at0 seed : Int), d ≤ 10 → d < n → w.size + d ≤ 1000000 → 0 ≤ at0 → at0 + 6 * d ≤ ZaX →
  ∃ w' at' seed', w'.size ≤ w.size + d ∧ at0 ≤ at' ∧ at' ≤ at0 + 6 * d ∧ ∀ (R : Type) (k0 : ByteArray → List V → Fl → Int → Int → Option R), Zb1 N b k0 n w (d : Int) e f at0 seed = k0 w' e f at' seed' := by
 intro d
 induction d with
 | zero =>
  intro n w at0 seed hd hn hw h0 h1
  obtain ⟨n, rfl⟩ : ∃ m, n = m + 1 := ⟨n - 1, by omega⟩
  exact ⟨w, at0, seed, by omega, by omega, by omega, fun R k0 => rfl⟩
 | succ d ih =>
  intro n w at0 seed hd hn hw h0 h1
  unfold ZaX at *
  obtain ⟨n, rfl⟩ : ∃ m, n = m + 1 := ⟨n - 1, by omega⟩
  have hd0 : decide (((d + 1 : Nat) : Int) > 0) = true := decide_eq_true (by omega)
  by_cases hz : w.size = 0
  ·refine ⟨w, at0, seed, by omega, by omega, by omega, fun R k0 => ?_⟩
   simp only [Zb1, Zbs, hd0, decide_eq_false (show ¬ ((w.size : Int) > 0) by omega)]
  ·obtain ⟨i, a1, s1, p1, p2, p3, p4, p5⟩ := Zd7 N he f seed (w.size : Int) h0 (by unfold ZaX; omega)
   obtain ⟨j, a2, s2, q1, q2, q3, q4, q5⟩ := Zd7 N he f s1 (b.size : Int) (at_ := a1) (by omega) (by unfold ZaX; omega)
   obtain ⟨t, a3, s3, r1, r2, r3, r4, r5⟩ := Zd7 N he f s2 3 (at_ := a2) (by omega) (by unfold ZaX; omega)
   have hi : i < (w.size : Int) := by omega
   obtain ⟨jn, rfl⟩ := Int.eq_ofNat_of_zero_le q1
   have hj : jn < (bl b).length := by rw [← Zbd]; omega
   have hwd : IntKind.i64.wrap (((d + 1 : Nat) : Int) - 1) = (d : Int) := by rw [ZaO (by omega) (by omega)]; omega
   have hwi : IntKind.i64.wrap (i + 1) = i + 1 := ZaO (by omega) (by omega)
   obtain ⟨in_, rfl⟩ := Int.eq_ofNat_of_zero_le p1
   have hwn : ((in_ : Int) + 1).toNat = in_ + 1 := by omega
   have fin : ∀ w1 : ByteArray, w1.size ≤ w.size + 1 → (∀ (R : Type) (k0 : ByteArray → List V → Fl → Int → Int → Option R), Zb1 N b k0 (n + 1) w ((d + 1 : Nat) : Int) e f at0 seed = Zb1 N b k0 n w1 (d : Int) e f a3 s3) →
     ∃ w' at' seed', w'.size ≤ w.size + (d + 1) ∧ at0 ≤ at' ∧ at' ≤ at0 + 6 * ((d + 1 : Nat) : Int) ∧ ∀ (R : Type) (k0 : ByteArray → List V → Fl → Int → Int → Option R), Zb1 N b k0 (n + 1) w ((d + 1 : Nat) : Int) e f at0 seed = k0 w' e f at' seed' := by
    intro w1 hw1 heq
    obtain ⟨w', a', s', z1, z2, z3, z4⟩ := ih n w1 a3 s3 (by omega) (by omega) (by omega) (by omega) (by omega)
    exact ⟨w', a', s', by omega, by omega, by omega, fun R k0 => (heq R k0).trans (z4 R k0)⟩
   obtain ⟨c, hc, hcs⟩ : ∃ c : List Int, Zjt [.int .u8 ((at_ (bl b) jn).toNat : Int)] = some c ∧ (strOfNums c).size = 1 := by
    refine ⟨_, rfl, ?_⟩
    rfl
   have e1 := ZcM w 0 in_
   have e2 := ZiD w in_ in_
   have e3 := ZiD w in_ (in_ + 1)
   have e4 := ZcM w in_ w.size
   have e5 := ZcM w (in_ + 1) w.size
   by_cases t0 : t = 0
   ·refine fin (((ByteArray.extract w 0 in_) ++ (strOfNums c)) ++ (ByteArray.extract w in_ w.size)) (by rw [Zb9, Zb9]; omega) fun R k0 => ?_
    simp only [Zb1, Zbs, hd0, decide_eq_true (show ((w.size : Int) > 0) by omega), p5, q5, ZaS b hj, hc, r5, t0, beq_self_eq_true, hwd, Int.toNat_natCast]
    rw [if_pos (by omega), if_pos (by omega), if_pos (by omega), if_pos (by rw [Zb9]; omega)]
   ·by_cases t1 : t = 1
    ·refine fin (((ByteArray.extract w 0 in_) ++ (strOfNums c)) ++ (ByteArray.extract w (in_ + 1) w.size)) (by rw [Zb9, Zb9]; omega) fun R k0 => ?_
     simp only [Zb1, Zbs, hd0, decide_eq_true (show ((w.size : Int) > 0) by omega), p5, q5, ZaS b hj, hc, r5, t1, beq_self_eq_true, hwd, hwi, Int.toNat_natCast, hwn, show ((1 : Int) == 0) = false from rfl]
     rw [if_pos (by omega), if_pos (by omega), if_pos (by omega), if_pos (by rw [Zb9]; omega)]
    ·refine fin ((ByteArray.extract w 0 in_) ++ (ByteArray.extract w (in_ + 1) w.size)) (by rw [Zb9]; omega) fun R k0 => ?_
     simp only [Zb1, Zbs, hd0, decide_eq_true (show ((w.size : Int) > 0) by omega), p5, q5, ZaS b hj, hc, r5, hwd, hwi, Int.toNat_natCast, hwn, show (t == 0) = false from beq_false_of_ne t0, show (t == 1) = false from beq_false_of_ne t1]
     rw [if_pos (by omega), if_pos (by omega), if_pos (by omega)]
theorem ZkT {e : List V} (he : Zbr e) (f : Fl) {b : ByteArray} (hb : 0 < b.size) (hb2 : b.size ≤ 1000) (hN : 100 < N) {w : ByteArray} (hw : w.size ≤ 1000) {at0 : Int} (seed : Int) (h0 : 0 ≤ at0) (h1 : at0 + 14 ≤ ZaX) :
  ∃ w' at' seed', w'.size ≤ w.size + 2 ∧ at0 ≤ at' ∧ at' ≤ at0 + 14 ∧ ∀ (R : Type) (k : ByteArray → List V → Fl → Int → Int → Option R), Znr N w b e f at0 seed k = k w' e f at' seed' := by
 unfold ZaX at *
 obtain ⟨v, a1, s1, p1, p2, p3, p4, p5⟩ := Zd7 N he f seed 2 h0 (by unfold ZaX; omega)
 have hv : v < 2 := by omega
 have hw1 : IntKind.i64.wrap (1 + v) = ((1 + v.toNat : Nat) : Int) := by rw [ZaO (by omega) (by omega)]; omega
 obtain ⟨w', a', s', z1, z2, z3, z4⟩ := ZiY N he f hb hb2 (1 + v.toNat) N w a1 s1 (by omega) (by omega) (by omega) (by omega) (by unfold ZaX; omega)
 refine ⟨w', a', s', by omega, by omega, by omega, fun R k => ?_⟩
 rw [ZkO]
 unfold ZhO
 rw [p5, hw1]
 exact z4 R k
end
end Go.VM.VL
set_option linter.unusedSimpArgs false
set_option linter.unusedVariables false
namespace Go.VM.VL
open Go
section
variable {R : Type} (N : Nat)
def Zr5 (m : Int) (s : Nat) : Int := IntKind.i64.wrap (BitVec.ofInt IntKind.i64.bits (Int.fdiv m (2 ^ s)) &&& BitVec.ofInt IntKind.i64.bits 1).toNat
theorem ZpX : ∀ m : Fin 512, ∀ s : Fin 9, Zr5 (m.val : Int) s.val = if Nat.testBit m.val s.val then 1 else 0 := by decide +kernel
theorem ZpP {m s : Nat} (hm : m < 512) (hs : s < 9) : Zr5 (m : Int) s = if Nat.testBit m s then 1 else 0 := ZpX ⟨m, hm⟩ ⟨s, hs⟩
def ZfM (m : Nat) (j : Nat) : UInt8 := if Nat.testBit m (8 - j) then (if j % 3 = 0 then 114 else if j % 3 = 1 then 119 else 120) else 45
def ZrI (m : Nat) : List UInt8 := [ZfM m 0, ZfM m 1, ZfM m 2, ZfM m 3, ZfM m 4, ZfM m 5, ZfM m 6, ZfM m 7, ZfM m 8]
def rwx (j : Nat) : Int := if j % 3 = 0 then 114 else if j % 3 = 1 then 119 else 120
def Zmr (m i j : Nat) : V := .int .u8 (if j < i then ((ZfM m j).toNat : Int) else rwx j)
def ZmM (m i : Nat) : List V := [Zmr m i 0, Zmr m i 1, Zmr m i 2, Zmr m i 3, Zmr m i 4, Zmr m i 5, Zmr m i 6, Zmr m i 7, Zmr m i 8]
theorem ZkA {m j : Nat} (h : Nat.testBit m (8 - j) = false) : ZfM m j = 45 := by unfold ZfM; rw [h]; rfl
theorem Zqj {m j : Nat} (h : Nat.testBit m (8 - j) = true) : ((ZfM m j).toNat : Int) = rwx j := by
 unfold ZfM rwx
 rw [h]
 simp only [if_true]
 split
 ·rfl
 ·split <;> rfl
theorem Zhy {m i : Nat} (hi : i < 9) (h : Nat.testBit m (8 - i) = false) : ZaC (ZmM m i) i (.int .u8 45) = ZmM m (i + 1) := by
 have e : ((ZfM m i).toNat : Int) = 45 := by rw [ZkA h]; rfl
 match i, hi with
 | 0, _ | 1, _ | 2, _ | 3, _ | 4, _ | 5, _ | 6, _ | 7, _ | 8, _ => simp [ZmM, ZaC, Zmr, e]
theorem ZjW {m i : Nat} (hi : i < 9) (h : Nat.testBit m (8 - i) = true) : ZmM m i = ZmM m (i + 1) := by
 have e := Zqj h
 match i, hi with
 | 0, _ | 1, _ | 2, _ | 3, _ | 4, _ | 5, _ | 6, _ | 7, _ | 8, _ => simp [ZmM, Zmr, e]
theorem Zqb {m i : Nat} (hi : i < 9) : nth (ZmM m i) i = some (.int .u8 (rwx i)) := by
 match i, hi with
 | 0, _ | 1, _ | 2, _ | 3, _ | 4, _ | 5, _ | 6, _ | 7, _ | 8, _ => simp [ZmM, nth, Zmr]
theorem ZrE {i : Nat} (hi : i < 9) : (min (IntKind.i64.wrap (8 - (i : Int))).toNat 64) = 8 - i ∧ ¬ IntKind.i64.wrap (8 - (i : Int)) < 0 := by
 rw [ZaO (by omega) (by omega)]; omega
def ZgA (m : Nat) : ByteArray := ba (ZrI m)
theorem ZsC (m : Nat) : ZmM m 9 = (ZrI m).map fun b => V.int .u8 (b.toNat : Int) := rfl
theorem Zgb : ∀ l : List UInt8, Zjt (l.map fun b => V.int .u8 (b.toNat : Int)) = some (l.map fun b => ((b.toNat : Nat) : Int))
 | [] => rfl
 | b :: l => by simp only [List.map_cons, Zjt, Zgb l]
theorem ZnP (l : List UInt8) : strOfNums (l.map fun b => ((b.toNat : Nat) : Int)) = ba l := by
 unfold strOfNums ba
 rw [List.map_map]
 have : (l.map ((fun n : Int => UInt8.ofNat n.toNat) ∘ fun b : UInt8 => ((b.toNat : Nat) : Int))) = l := by
  conv => rhs; rw [← List.map_id l]
  apply List.map_congr_left
  intro b _
  simp
 rw [this]
theorem ZfV {m : Nat} (hm : m < 512) (hN : 100 < N) (k : ByteArray → Option R) : ZjV N (m : Int) k = k (ZgA m) := by
 rw [ZkN]
 unfold Zig
 refine (Ze3 (l := fun n i => Zdz N (m : Int) (fun e5 => Zal (Nat.beq 1 1 && decide (0 + 9 ≤ e5.length)) (match Zjt ((e5.drop 0).take 9) with
     | some w6 => k (strOfNums w6)
     | none => none)) n (i : Int) (ZmM m i)) (len := 9) (k1 := k (ZgA m)) ?_ ?_ (show 9 < N by omega))
 ·intro n i hi
  obtain ⟨q1, q2⟩ := ZrE hi
  have hb := ZpP hm (s := 8 - i) (by omega)
  unfold Zr5 at hb
  simp only [Zdz, Zci]
  rw [decide_eq_true (by omega : (i : Int) < 9)]
  simp only
  rw [if_neg q2, q1, hb, Zbv (i := i) (by omega)]
  cases h : Nat.testBit m (8 - i) with
  | true =>
   simp only [if_true]
   rw [show ((1 : Int) == 0) = false from rfl, ZjW hi h]
  | false =>
   simp only [Bool.false_eq_true, if_false]
   rw [show ((0 : Int) == 0) = true from rfl]
   simp only [Int.toNat_natCast, Nat.zero_add]
   rw [if_pos (by omega), Zqb hi]
   show Zdz N (m : Int) _ n _ (ZaC (ZmM m i) i (.int .u8 45)) = _
   rw [Zhy hi h]
 ·intro n
  show (match Zjt (((ZrI m).map fun b => V.int .u8 (b.toNat : Int))) with
     | some w6 => k (strOfNums w6)
     | none => none) = _
  rw [Zgb]
  show k (strOfNums _) = _
  rw [ZnP]
  rfl
theorem ZsJ : ∀ j : Fin 9, ByteArray.extract (ByteArray.mk #[120, 119, 114]) (8 - j.val) 0 = ByteArray.extract (ByteArray.mk #[120, 119, 114]) (8 - j.val) 0 := fun _ => rfl
def Zqf (m i : Nat) : ByteArray := ba ((ZrI m).take i)
theorem Zm3 {m i : Nat} (hi : i < 9) : Zqf m (i + 1) = Zqf m i ++ ba [ZfM m i] := by
 have : bl (Zqf m i ++ ba [ZfM m i]) = bl (Zqf m (i + 1)) := by
  rw [Zf7]
  match i, hi with
  | 0, _ | 1, _ | 2, _ | 3, _ | 4, _ | 5, _ | 6, _ | 7, _ | 8, _ => rfl
 rw [← Zl3 (Zqf m (i + 1)), ← this, Zl3]
theorem Zfd {m : Nat} (hm : m < 512) (hN : 100 < N) (k : ByteArray → Option R) : ZlL N (m : Int) k = k (ZgA m) := by
 rw [Zle]
 unfold ZhT
 refine (Ze3 (l := fun n i => Zeo N (m : Int) (fun w1 => k w1) n (Zqf m i) (8 - (i : Int))) (len := 9) (k1 := k (ZgA m)) ?_ ?_ (show 9 < N by omega))
 ·intro n i hi
  have hb := ZpP hm (s := 8 - i) (by omega)
  unfold Zr5 at hb
  have hu : IntKind.u64.wrap (8 - (i : Int)) = ((8 - i : Nat) : Int) := by rw [Zhl (by omega) (by omega)]; omega
  have hmin : min (((8 - i : Nat) : Int)).toNat 64 = 8 - i := by omega
  have hw : IntKind.i64.wrap (8 - (i : Int) - 1) = 8 - ((i + 1 : Nat) : Int) := by rw [ZaO (by omega) (by omega)]; omega
  have hsz : (Zqf m i).size ≤ 9 := by rw [Zbd]; show ((ZrI m).take i).length ≤ 9; rw [List.length_take]; exact Nat.min_le_right _ _
  simp only [Zeo, Zcn]
  rw [decide_eq_true (by omega : 8 - (i : Int) ≥ 0)]
  simp only
  rw [if_neg (by rw [hu]; omega), hu, hmin, hb, hw, Zm3 hi]
  cases h : Nat.testBit m (8 - i) with
  | true =>
   simp only [if_true]
   rw [show ((1 : Int) == 1) = true from rfl]
   simp only
   have hx : ∀ j : Fin 9, (0 : Int) ≤ IntKind.i64.wrap (Int.tmod (8 - (j.val : Int)) 3 + 1) ∧ IntKind.i64.wrap (Int.tmod (8 - (j.val : Int)) 3 + 1) ≤ ((ByteArray.mk #[120, 119, 114]).size : Int) ∧ (0 : Int) ≤ Int.tmod (8 - (j.val : Int)) 3 ∧ Int.tmod (8 - (j.val : Int)) 3 ≤ ((IntKind.i64.wrap (Int.tmod (8 - (j.val : Int)) 3 + 1)).toNat : Int) ∧
     (ByteArray.extract (ByteArray.mk #[120, 119, 114]) ((Int.tmod (8 - (j.val : Int)) 3).toNat) ((IntKind.i64.wrap (Int.tmod (8 - (j.val : Int)) 3 + 1)).toNat)) = ba [if j.val % 3 = 0 then 114 else if j.val % 3 = 1 then 119 else 120] := by decide +kernel
   obtain ⟨x1, x2, x3, x4, x5⟩ := hx ⟨i, hi⟩
   simp only at x1 x2 x3 x4 x5
   rw [if_pos ⟨x1, x2⟩, if_pos ⟨x3, x4⟩, x5]
   have hs1 : ZfM m i = if i % 3 = 0 then 114 else if i % 3 = 1 then 119 else 120 := by unfold ZfM; rw [h]; rfl
   rw [← hs1, if_pos (by have : (ba [ZfM m i]).size = 1 := rfl; omega)]
  | false =>
   simp only [Bool.false_eq_true, if_false]
   rw [show ((0 : Int) == 1) = false from rfl]
   simp only
   have : (ByteArray.mk #[45]) = ba [ZfM m i] := by rw [ZkA h]; rfl
   rw [this, if_pos (by have : (ba [ZfM m i]).size = 1 := rfl; omega)]
 ·intro n
  rfl
def Zty (m : Nat) : List UInt8 := [UInt8.ofNat (48 + m / 64), UInt8.ofNat (48 + m / 8 % 8), UInt8.ofNat (48 + m % 8)]
def Ze5 (m : Nat) : ByteArray := ba (Zty m)
theorem ZqD : ∀ m : Fin 512, strOfNums [IntKind.u8.wrap (IntKind.i64.wrap (48 + Int.fdiv (m.val : Int) (2 ^ (min (6 : Int).toNat 64)))), IntKind.u8.wrap (IntKind.i64.wrap (48 + IntKind.i64.wrap (BitVec.ofInt IntKind.i64.bits (Int.fdiv (m.val : Int) (2 ^ (min (3 : Int).toNat 64))) &&& BitVec.ofInt IntKind.i64.bits 7).toNat)), IntKind.u8.wrap (IntKind.i64.wrap (48 + IntKind.i64.wrap (BitVec.ofInt IntKind.i64.bits (m.val : Int) &&& BitVec.ofInt IntKind.i64.bits 7).toNat))] = Ze5 m.val := by decide +kernel
theorem Zfz {m : Nat} (hm : m < 512) (k : ByteArray → Option R) : ZjJ N (m : Int) k = k (Ze5 m) := by
 rw [Zlh]
 unfold ZiI
 show k (strOfNums _) = _
 rw [ZqD ⟨m, hm⟩]
def Zoh (d : Nat) : ByteArray := ba [UInt8.ofNat (48 + d)]
theorem Zqu : ∀ d : Fin 10, strOfNums [IntKind.u8.wrap (IntKind.i64.wrap (48 + (d.val : Int)))] = Zoh d.val := by decide +kernel
theorem ZjX {d : Nat} (hd : d < 10) {M : Nat} (hM : 0 < M) (k : ByteArray → Option R) : ZfG N M R (d : Int) k = k (Zoh d) := by
 obtain ⟨M, rfl⟩ : ∃ q, M = q + 1 := ⟨M - 1, by omega⟩
 rw [ZkE]
 unfold Zkr
 rw [decide_eq_true (by omega : (d : Int) < 10)]
 show k (strOfNums _) = _
 rw [Zqu ⟨d, hd⟩]
theorem Zfb {m : Nat} (hm : m < 512) (hN : 100 < N) (k : ByteArray → Option R) : Zlr N (m : Int) k = k (Ze5 m) := by
 rw [Zkc]
 unfold Ziz
 have h1 : IntKind.i64.wrap (Int.tdiv (m : Int) 64) = ((m / 64 : Nat) : Int) := by
  rw [Int.tdiv_eq_ediv_of_nonneg (by omega), ZaO (by omega) (by omega)]; omega
 have h2 : Int.tmod (IntKind.i64.wrap (Int.tdiv (m : Int) 8)) 8 = ((m / 8 % 8 : Nat) : Int) := by
  have : IntKind.i64.wrap (Int.tdiv (m : Int) 8) = ((m / 8 : Nat) : Int) := by rw [Int.tdiv_eq_ediv_of_nonneg (by omega), ZaO (by omega) (by omega)]; omega
  rw [this, Int.tmod_eq_emod_of_nonneg (by omega)]; omega
 have h3 : Int.tmod (m : Int) 8 = ((m % 8 : Nat) : Int) := by rw [Int.tmod_eq_emod_of_nonneg (by omega)]; omega
 have hs : ∀ d, (Zoh d).size = 1 := fun d => rfl
 rw [h1, ZjX N (by omega) (by omega), h2, ZjX N (by omega) (by omega), if_pos (by rw [hs, hs]; omega), h3, ZjX N (by omega) (by omega), if_pos (by rw [Zb9, hs, hs, hs]; omega)]
 have : bl ((Zoh (m / 64) ++ Zoh (m / 8 % 8)) ++ Zoh (m % 8)) = bl (Ze5 m) := by rw [Zf7, Zf7]; rfl
 have h4 : (Zoh (m / 64) ++ Zoh (m / 8 % 8)) ++ Zoh (m % 8) = Ze5 m := by rw [← Zl3 (Ze5 m), ← this, Zl3]
 rw [h4]
end
end Go.VM.VL
set_option linter.unusedSimpArgs false
set_option linter.unusedVariables false
namespace Go.VM.VL
open Go
section
variable {R : Type} (N : Nat)
theorem Zb4 {a b : ByteArray} : (a.toList == b.toList) = decide (a = b) := by
 by_cases h : a = b
 ·rw [h, decide_eq_true rfl]; simp
 ·rw [decide_eq_false h]
  apply beq_false_of_ne
  intro h2
  rw [ByteArray.toList_eq, ByteArray.toList_eq] at h2
  exact h (by rw [← Zl3 a, ← Zl3 b, show bl a = bl b from h2])
theorem ZtE (b : UInt8) : ((b.toNat : Int) != 45) = decide (b ≠ 45) := by
 by_cases h : b = 45
 ·subst h; rfl
 ·rw [decide_eq_true h]
  apply bne_iff_ne.2
  intro h2
  apply h
  apply UInt8.toNat_inj.1
  show b.toNat = 45
  omega
theorem ZcB {l : List UInt8} {i : Nat} (h : i < l.length) : l.take (i + 1) = l.take i ++ [at_ l i] := by
 rw [List.take_add_one, List.getElem?_eq_getElem h, ZeD h]; rfl
def Zmq (l : List UInt8) : Nat := l.foldl (fun a b => 2 * a + if b = 45 then 0 else 1) 0
theorem Zhp (l : List UInt8) (b : UInt8) : Zmq (l ++ [b]) = 2 * Zmq l + if b = 45 then 0 else 1 := by
 unfold Zmq; rw [List.foldl_append]; rfl
theorem ZgX : ∀ (i : Nat) (l : List UInt8), i ≤ l.length → Zmq (l.take i) < 2 ^ i
 | 0, l, _ => by simp [Zmq]
 | i + 1, l, h => by
  have ih := ZgX i l (by omega)
  rw [ZcB (by omega), Zhp, Nat.pow_succ]
  split <;> omega
def Zoe (w : ByteArray) : Nat := Zmq ((bl w).take 9)
theorem Zmz (w : ByteArray) : Zoe w < 512 := by
 unfold Zoe
 by_cases h : 9 ≤ (bl w).length
 ·exact ZgX 9 _ h
 ·have h1 := ZgX (bl w).length (bl w) (Nat.le_refl _)
  rw [List.take_length] at h1
  rw [List.take_of_length_le (by omega)]
  have : 2 ^ (bl w).length ≤ 2 ^ 9 := Nat.pow_le_pow_right (by omega) (by omega)
  omega
theorem Zn4 : ∀ m : Fin 512, Zoe (ZgA m.val) = m.val := by decide +kernel
def Zie (w : ByteArray) (k : Int → Bool → Option R) : Option R := if ZgA (Zoe w) = w then k (Zoe w) true else k 0 false
theorem Zgl {w : ByteArray} (hw : w.size ≤ 1048576) (hN : 1000 < N) (k : Int → Bool → Option R) : ZmN N w k = Zie w k := by
 rw [Zld]
 unfold Zil
 have hlen := Zbd w
 obtain ⟨L, hL, hL9, hLs, hLt⟩ : ∃ L : Nat, (if 9 < (w.size : Int) then (9 : Int) else (w.size : Int)) = (L : Int) ∧ L ≤ 9 ∧ L ≤ (bl w).length ∧ (bl w).take L = (bl w).take 9 := by
  by_cases h : 9 < (w.size : Int)
  ·exact ⟨9, by rw [if_pos h]; rfl, by omega, by omega, rfl⟩
  ·refine ⟨w.size, by rw [if_neg h], by omega, by omega, ?_⟩
   rw [List.take_of_length_le (by omega), List.take_of_length_le (by omega)]
 rw [hL]
 refine (Ze3 (l := fun n i => Zdu N w (L : Int) (fun x3 => ZjV N x3 fun w4 => (match (!(w4.toList == w.toList)) with
  | true => k 0 false
  | false => k x3 true)) n ((Zmq ((bl w).take i) : Nat) : Int) (i : Int)) (len := L) (k1 := Zie w k) ?_ ?_ (show L < N by omega))
 ·intro n i hi
  have hv : Zmq ((bl w).take i) < 512 := by
   have h1 := ZgX i (bl w) (by omega)
   have : 2 ^ i ≤ 2 ^ 9 := Nat.pow_le_pow_right (by omega) (by omega)
   omega
  simp only [Zdu, ZbU]
  rw [ZpW hi]
  simp only
  rw [ZaS w (by omega), ZtE, ZcB (by omega), Zhp, Zbv (i := i) (by omega)]
  have h2 : IntKind.i64.wrap (((Zmq ((bl w).take i) : Nat) : Int) * 2) = ((2 * Zmq ((bl w).take i) : Nat) : Int) := by rw [ZaO (by omega) (by omega)]; omega
  rw [h2]
  by_cases hb : at_ (bl w) i = 45
  ·rw [decide_eq_false (by simpa using hb), if_pos hb]
   simp
  ·rw [decide_eq_true hb, if_neg hb]
   have h3 : IntKind.i64.wrap (((2 * Zmq ((bl w).take i) : Nat) : Int) + 1) = ((2 * Zmq ((bl w).take i) + 1 : Nat) : Int) := by rw [ZaO (by omega) (by omega)]; omega
   simp only [h3]
 ·intro n
  simp only [Zdu, ZbU]
  rw [show decide ((L : Int) < (L : Int)) = false from decide_eq_false (by omega), hLt]
  show ZjV N ((Zoe w : Nat) : Int) _ = _
  rw [ZfV N (Zmz w) (by omega), Zb4]
  unfold Zie
  by_cases h : ZgA (Zoe w) = w
  ·rw [decide_eq_true h, if_pos h]; rfl
  ·rw [decide_eq_false h, if_neg h]; rfl
theorem ZhD {f : Nat → ByteArray} {v : Nat} {w : ByteArray} (hv : v < 512) (h1 : ∀ m, m < 512 → f m = w → v = m) :
  (List.range' 0 512).findSome? (fun i => if f i = w then some i else none) = if f v = w then some v else none := by
 cases h : (List.range' 0 512).findSome? (fun i => if f i = w then some i else none) with
 | some i =>
  obtain ⟨j, hj, hq⟩ := List.exists_of_findSome?_eq_some h
  rw [List.mem_range'] at hj
  obtain ⟨t, ht, rfl⟩ := hj
  by_cases hf : f (0 + 1 * t) = w
  ·rw [if_pos hf] at hq
   obtain rfl := Option.some.inj hq
   have := h1 _ (by omega) hf
   rw [this, if_pos hf]
  ·rw [if_neg hf] at hq; cases hq
 | none =>
  have h2 := ZfT.1 h v hv
  by_cases hf : f v = w
  ·rw [if_pos hf] at h2; cases h2
  ·rw [if_neg hf]
theorem ZsY {w : ByteArray} (hN : 1000 < N) (k : Int → Bool → Option R) : ZoE N w k = Zie w k := by
 rw [ZkL]
 unfold Zis
 refine (ZcA (β := Nat) (l := fun n i => Zeh N w (fun x3 => k x3 true) (fun (_ : Unit) => k 0 false) n (i : Int)) (len := 512) (q := fun i => if ZgA i = w then some i else none) (kb := fun i => k (i : Int) true) (k1 := k 0 false) ?_ ?_ (show 512 < N by omega)).trans ?_
 ·intro n i hi _
  simp only [Zeh, Zcj]
  rw [decide_eq_true (by omega : (i : Int) < 512)]
  simp only
  rw [Zfd N hi (by omega), Zb4, Zbv (i := i) (by omega)]
  by_cases h : ZgA i = w
  ·rw [decide_eq_true h, if_pos h]
  ·rw [decide_eq_false h, if_neg h]
 ·intro _ n
  rfl
 ·rw [ZhD (f := ZgA) (v := Zoe w) (w := w) (Zmz w) (fun m hm h => by rw [← h]; exact Zn4 ⟨m, hm⟩)]
  unfold Zie
  by_cases h : ZgA (Zoe w) = w
  ·rw [if_pos h, if_pos h]
  ·rw [if_neg h, if_neg h]
def ZfB (l : List UInt8) : Nat := l.foldl (fun a b => 8 * a + b.toNat % 8) 0
theorem Zhw (l : List UInt8) (b : UInt8) : ZfB (l ++ [b]) = 8 * ZfB l + b.toNat % 8 := by
 unfold ZfB; rw [List.foldl_append]; rfl
theorem Zgp : ∀ (i : Nat) (l : List UInt8), i ≤ l.length → ZfB (l.take i) < 8 ^ i
 | 0, l, _ => by simp [ZfB]
 | i + 1, l, h => by
  have ih := Zgp i l (by omega)
  rw [ZcB (by omega), Zhw, Nat.pow_succ]
  omega
theorem Zol : ∀ b : Fin 256, IntKind.i64.wrap (IntKind.u8.wrap (BitVec.ofInt IntKind.u8.bits (b.val : Int) &&& BitVec.ofInt IntKind.u8.bits 7).toNat) = ((b.val % 8 : Nat) : Int) := by decide +kernel
theorem ZmG : ∀ m : Fin 512, ZfB (Zty m.val) = m.val := by decide +kernel
def ZjN (w : ByteArray) (k : Int → Bool → Option R) : Option R := if w.size = 3 ∧ Ze5 (ZfB (bl w)) = w then k (ZfB (bl w)) true else k 0 false
theorem Zfj {w : ByteArray} (hN : 1000 < N) (k : Int → Bool → Option R) : Zn3 N w k = ZjN w k := by
 rw [Zki]
 unfold Zht ZjN
 have hlen := Zbd w
 by_cases h3 : w.size = 3
 ·rw [show ((w.size : Int) != 3) = false by rw [h3]; rfl]
  simp only [h3, true_and]
  refine (Ze3 (l := fun n i => Zds N w (fun x3 => ZjJ N x3 fun w4 => (match (!(w4.toList == w.toList)) with
   | true => k 0 false
   | false => k x3 true)) n ((ZfB ((bl w).take i) : Nat) : Int) (i : Int)) (len := 3) (k1 := if Ze5 (ZfB (bl w)) = w then k (ZfB (bl w)) true else k 0 false) ?_ ?_ (show 3 < N by omega))
  ·intro n i hi
   have hv : ZfB ((bl w).take i) < 512 := by
    have h1 := Zgp i (bl w) (by omega)
    have : 8 ^ i ≤ 8 ^ 3 := Nat.pow_le_pow_right (by omega) (by omega)
    omega
   simp only [Zds, ZbY]
   rw [decide_eq_true (by omega : (i : Int) < 3)]
   simp only
   have hlt := (at_ (bl w) i).toNat_lt
   rw [ZaS w (by omega), Zol ⟨_, hlt⟩, ZcB (by omega), Zhw, Zbv (i := i) (by omega)]
   have h2 : IntKind.i64.wrap (IntKind.i64.wrap (((ZfB ((bl w).take i) : Nat) : Int) * 8) + (((at_ (bl w) i).toNat % 8 : Nat) : Int)) = ((8 * ZfB ((bl w).take i) + (at_ (bl w) i).toNat % 8 : Nat) : Int) := by
    rw [ZaO (x := ((ZfB ((bl w).take i) : Nat) : Int) * 8) (by omega) (by omega), ZaO (by omega) (by omega)]; omega
   rw [h2]
  ·intro n
   simp only [Zds, ZbY]
   have ht : (bl w).take 3 = bl w := List.take_of_length_le (by omega)
   rw [ht]
   have hv : ZfB (bl w) < 512 := by
    have := Zgp 3 (bl w) (by omega)
    rw [ht] at this
    omega
   show ZjJ N ((ZfB (bl w) : Nat) : Int) _ = _
   rw [Zfz N hv, Zb4]
   by_cases h : Ze5 (ZfB (bl w)) = w
   ·rw [decide_eq_true h, if_pos h]; rfl
   ·rw [decide_eq_false h, if_neg h]; rfl
 ·rw [show ((w.size : Int) != 3) = true from bne_iff_ne.2 (by omega), if_neg (by simp [h3])]
theorem Zsx {w : ByteArray} (hN : 1000 < N) (k : Int → Bool → Option R) : ZoJ N w k = ZjN w k := by
 rw [Zk9]
 unfold ZhW
 refine (ZcA (β := Nat) (l := fun n i => Zei N w (fun x3 => k x3 true) (fun (_ : Unit) => k 0 false) n (i : Int)) (len := 512) (q := fun i => if Ze5 i = w then some i else none) (kb := fun i => k (i : Int) true) (k1 := k 0 false) ?_ ?_ (show 512 < N by omega)).trans ?_
 ·intro n i hi _
  simp only [Zei, Zcp]
  rw [decide_eq_true (by omega : (i : Int) < 512)]
  simp only
  rw [Zfb N hi (by omega), Zb4, Zbv (i := i) (by omega)]
  by_cases h : Ze5 i = w
  ·rw [decide_eq_true h, if_pos h]
  ·rw [decide_eq_false h, if_neg h]
 ·intro _ n
  rfl
 ·have hsz : ∀ m, (Ze5 m).size = 3 := fun m => rfl
  unfold ZjN
  by_cases h3 : w.size = 3
  ·simp only [h3, true_and]
   have hv : ZfB (bl w) < 512 := by
    have hlen := Zbd w
    have := Zgp 3 (bl w) (by omega)
    rw [List.take_of_length_le (by omega)] at this
    omega
   rw [ZhD (f := Ze5) (v := ZfB (bl w)) (w := w) hv (fun m hm h => by rw [← h]; exact ZmG ⟨m, hm⟩)]
   by_cases h : Ze5 (ZfB (bl w)) = w
   ·rw [if_pos h, if_pos h]
   ·rw [if_neg h, if_neg h]
  ·rw [if_neg (by simp [h3])]
   have : (List.range' 0 512).findSome? (fun i => if Ze5 i = w then some i else none) = none := by
    rw [ZfT]
    intro i hi
    rw [if_neg fun h => h3 (by rw [← h]; exact hsz i)]
   rw [this]
end
end Go.VM.VL
set_option linter.unusedSimpArgs false
set_option linter.unusedVariables false
namespace Go.VM.VL
open Go
section
variable {R : Type} (N : Nat)
def orI (a b : Int) : Int := IntKind.i64.wrap (BitVec.ofInt IntKind.i64.bits a ||| BitVec.ofInt IntKind.i64.bits b).toNat
def Zog (a b : Int) : Int := IntKind.i64.wrap (BitVec.ofInt IntKind.i64.bits a &&& BitVec.ofInt IntKind.i64.bits b).toNat
def ZpG (a b : Int) : Int := IntKind.i64.wrap (BitVec.ofInt IntKind.i64.bits a &&& ~~~(BitVec.ofInt IntKind.i64.bits b)).toNat
def Ztx (a : Int) (s : Nat) : Int := IntKind.i64.wrap (a * 2 ^ s)
def ZnL (x : Int) : Int := orI (orI (Ztx x 6) (Ztx x 3)) x
def Zoj (l : List UInt8) (b : UInt8) : Option Nat := (List.range' 0 l.length).findSome? fun i => if at_ l i = b then some i else none
def ZaM (ls : List UInt8) (bits : List Int) : List UInt8 → List UInt8 → Int → Option Int
 | _, [], acc => some acc
 | seen, b :: r, acc => match Zoj ls b with
  | none => none
  | some i => if b ∈ seen then none else ZaM ls bits (seen ++ [b]) r (orI acc (at_ bits i))
theorem ZpD {l : List UInt8} {b : UInt8} {i : Nat} (h : Zoj l b = some i) : i < l.length := by
 unfold Zoj at h
 obtain ⟨j, hj, hq⟩ := List.exists_of_findSome?_eq_some h
 rw [List.mem_range'] at hj
 split at hq
 ·obtain rfl := Option.some.inj hq; omega
 ·cases hq
theorem ZhA (b : UInt8) : ∀ l : List UInt8, decide (Lib.indexByte l b ≥ 0) = decide (b ∈ l)
 | [] => by simp [Lib.indexByte]
 | c :: l => by
  have ih := ZhA b l
  have hge : ∀ l : List UInt8, -1 ≤ Lib.indexByte l b := by
   intro l
   induction l with
   | nil => simp [Lib.indexByte]
   | cons d l ih =>
    unfold Lib.indexByte
    split
    ·omega
    ·split <;> omega
  have hl := hge l
  unfold Lib.indexByte
  by_cases hc : c = b
  ·subst hc; simp
  ·by_cases hm : b ∈ l
   ·rw [decide_eq_true hm] at ih
    have h0 := of_decide_eq_true ih
    have : ¬ Lib.indexByte l b = -1 := by omega
    simp [hc, hm, this, Ne.symm hc]
    omega
   ·rw [decide_eq_false hm] at ih
    have h0 := of_decide_eq_false ih
    have : Lib.indexByte l b = -1 := by omega
    simp [hc, hm, this, Ne.symm hc]
theorem Zqt (b : UInt8) : ((b.toNat : Nat) : Int).toNat.toUInt8 = b := by
 rw [Int.toNat_natCast]; simp
theorem ZfA (w : ByteArray) (b : UInt8) (k : Int → Option R) : ZnN N w ((b.toNat : Nat) : Int) k = k (Lib.indexByte (bl w) b) := by
 rw [ZkQ]
 unfold Zh9
 rw [Zlj]
 unfold Zhr
 rw [Zkq]
 unfold Zkp
 rw [Zqt]
def Zpd (ls : List UInt8) : Prop := ∀ b : UInt8, Lib.indexByte ls b = match Zoj ls b with | some i => (i : Int) | none => -1
theorem ZkM {ls : List UInt8} (h : ∀ b : Fin 256, Lib.indexByte ls (UInt8.ofNat b.val) = match Zoj ls (UInt8.ofNat b.val) with | some i => (i : Int) | none => -1) : Zpd ls := by
 intro b
 have := h ⟨b.toNat, b.toNat_lt⟩
 simpa using this
theorem ZtA : Zpd [117, 103, 111, 97] := ZkM (by decide +kernel)
theorem ZtC : Zpd [114, 119, 120] := ZkM (by decide +kernel)
theorem Zn1 {l : List UInt8} {i : Nat} (h : i < l.length) : l.drop i = at_ l i :: l.drop (i + 1) := by
 rw [List.drop_eq_getElem_cons h, ZeD h]
theorem Zfe {w ls : ByteArray} {bits : List Int} (hb : bits.length = (bl ls).length) (hi : Zpd (bl ls)) (hw : w.size ≤ 100) (hN : 1000 < N) (f : Fl) (k : Int → Bool → Option R) :
  ZlG N w ls (ZdY bits) f k = match ZaM (bl ls) bits [] (bl w) 0 with | some a => k a true | none => k 0 false := by
 rw [Zli]
 unfold ZhL
 have hlen := Zbd w
 have key : ∀ (d n i : Nat) (acc : Int), i + d = (bl w).length → d < n →
   Zdr N w ls (ZdY bits) f (w.size : Int) (fun x13 => k 0 false) (fun x14 => k x14 true) n acc (i : Int) = match ZaM (bl ls) bits ((bl w).take i) ((bl w).drop i) acc with | some a => k a true | none => k 0 false := by
  intro d
  induction d with
  | zero =>
   intro n i acc h1 h2
   obtain ⟨n, rfl⟩ : ∃ m, n = m + 1 := ⟨n - 1, by omega⟩
   obtain rfl : i = (bl w).length := by omega
   simp only [Zdr, ZbT]
   rw [decide_eq_false (by omega), List.drop_length]
   rfl
  | succ d ih =>
   intro n i acc h1 h2
   obtain ⟨n, rfl⟩ : ∃ m, n = m + 1 := ⟨n - 1, by omega⟩
   simp only [Zdr, ZbT]
   rw [decide_eq_true (by omega), Zn1 (show i < (bl w).length by omega)]
   simp only
   rw [ZaS w (by omega), ZfA, hi]
   simp only [ZaM]
   cases hx : Zoj (bl ls) (at_ (bl w) i) with
   | none => rfl
   | some x =>
    have hxl := ZpD hx
    simp only
    rw [decide_eq_false (by omega : ¬ (x : Int) < 0)]
    simp only
    rw [if_pos (by omega), ZaS w (by omega), ZfA, ZhA, Zbu, Int.toNat_natCast, List.drop_zero]
    by_cases hm : at_ (bl w) i ∈ (bl w).take i
    ·rw [decide_eq_true hm, if_pos hm]
    ·rw [decide_eq_false hm, if_neg hm]
     simp only
     rw [if_pos (by omega), Int.toNat_natCast, ZkZ (by omega), Zaf, Zib, Zbv (i := i) (by omega)]
     rw [← ZcB (by omega)]
     exact ih n (i + 1) _ (by omega) (by omega)
 exact key (bl w).length N 0 0 (by omega) (by omega)
theorem ZgD (a b : UInt8) : (((a.toNat : Nat) : Int) == ((b.toNat : Nat) : Int)) = decide (a = b) := by
 by_cases h : a = b
 ·subst h; simp
 ·rw [decide_eq_false h]
  apply beq_false_of_ne
  intro h2
  exact h (UInt8.toNat_inj.1 (by omega))
theorem ZoC {l : List UInt8} {i : Nat} (hi : i < l.length) : (List.range' 0 i).all (fun j => decide (at_ l j ≠ at_ l i)) = decide (at_ l i ∉ l.take i) := by
 rw [Bool.eq_iff_iff, Zij, decide_eq_true_iff]
 constructor
 ·intro h hm
  obtain ⟨j, hj, he⟩ := List.getElem_of_mem hm
  rw [List.length_take] at hj
  have := of_decide_eq_true (h j (by omega))
  rw [List.getElem_take] at he
  exact this (by rw [ZeD (show j < l.length by omega)]; exact he)
 ·intro h j hj
  apply decide_eq_true
  intro he
  apply h
  rw [← he, ZeD (show j < l.length by omega)]
  rw [List.mem_take_iff_getElem]
  exact ⟨j, by omega, rfl⟩
theorem Zfm {w ls : ByteArray} {bits : List Int} (hb : bits.length = (bl ls).length) (hw : w.size ≤ 100) (hls : ls.size ≤ 100) (hN : 1000 < N) (f : Fl) (k : Int → Option R) :
  Zlv N w ls (ZdY bits) f k = match ZaM (bl ls) bits [] (bl w) 0 with | some a => k a | none => k (-1) := by
 rw [ZkB]
 unfold Ziu
 have hlen := Zbd w
 have hlen2 := Zbd ls
 have key : ∀ (d n i : Nat) (acc : Int), i + d = (bl w).length → d < n →
   Zdw N w ls (ZdY bits) f (fun x15 => k (-1)) (fun x16 => k x16) n acc (i : Int) = match ZaM (bl ls) bits ((bl w).take i) ((bl w).drop i) acc with | some a => k a | none => k (-1) := by
  intro d
  induction d with
  | zero =>
   intro n i acc h1 h2
   obtain ⟨n, rfl⟩ : ∃ m, n = m + 1 := ⟨n - 1, by omega⟩
   obtain rfl : i = (bl w).length := by omega
   simp only [Zdw, ZbS]
   rw [decide_eq_false (by omega), List.drop_length]
   rfl
  | succ d ih =>
   intro n i acc h1 h2
   obtain ⟨n, rfl⟩ : ∃ m, n = m + 1 := ⟨n - 1, by omega⟩
   simp only [Zdw, ZbS]
   rw [decide_eq_true (by omega), Zn1 (show i < (bl w).length by omega)]
   simp only
   have h0 : ∀ (k0 : Int → Option R), ZcY N w ls (ZdY bits) f acc (i : Int) k0 N 0 = match Zoj (bl ls) (at_ (bl w) i) with | some x => k0 (x : Int) | none => k0 (ls.size : Int) := by
    intro k0
    refine (ZcA (β := Nat) (l := fun n x => ZcY N w ls (ZdY bits) f acc (i : Int) k0 n (x : Int)) (len := (bl ls).length) (q := fun x => if at_ (bl ls) x = at_ (bl w) i then some x else none) (kb := fun x => k0 (x : Int)) (k1 := k0 (ls.size : Int)) ?_ ?_ (show (bl ls).length < N by omega)).trans ?_
    ·intro n x hx _
     simp only [ZcY, Zb0]
     rw [decide_eq_true (by omega)]
     simp only
     rw [ZaS ls (by omega), ZaS w (by omega), Zbv (i := x) (by omega)]
     by_cases he : at_ (bl ls) x = at_ (bl w) i
     ·rw [if_pos he, he, show (((at_ (bl w) i).toNat : Int) != ((at_ (bl w) i).toNat : Int)) = false by simp]
     ·rw [if_neg he, show (((at_ (bl ls) x).toNat : Int) != ((at_ (bl w) i).toNat : Int)) = true by
       rw [bne, ZgD, decide_eq_false he]; rfl]
    ·intro _ n
     simp only [ZcY, Zb0]
     rw [decide_eq_false (by omega), hlen2]
    ·unfold Zoj
     generalize (List.range' 0 (bl ls).length).findSome? _ = o
     cases o <;> rfl
   rw [h0]
   simp only [ZaM]
   cases hx : Zoj (bl ls) (at_ (bl w) i) with
   | none =>
    simp only
    rw [show ((ls.size : Int) == (ls.size : Int)) = true by simp]
   | some x =>
    have hxl := ZpD hx
    simp only
    rw [show ((x : Int) == (ls.size : Int)) = false from beq_false_of_ne (by omega)]
    simp only
    have h1' : ∀ (k0 k1 : Option R), ZcT N w ls (ZdY bits) f acc (i : Int) (x : Int) (fun _ => k0) (fun _ => k1) N 0 = if decide (at_ (bl w) i ∉ (bl w).take i) then k1 else k0 := by
     intro k0 k1
     rw [← ZoC (show i < (bl w).length by omega)]
     refine Zpo (l := fun n j => ZcT N w ls (ZdY bits) f acc (i : Int) (x : Int) (fun _ => k0) (fun _ => k1) n (j : Int)) (len := i) (p := fun j => decide (at_ (bl w) j ≠ at_ (bl w) i)) (k0 := k0) (k1 := k1) ?_ ?_ (show i < N by omega)
     ·intro n j hj _
      simp only [ZcT, ZbZ]
      rw [decide_eq_true (by omega : (j : Int) < (i : Int))]
      simp only
      rw [ZaS w (by omega), ZaS w (by omega), ZgD, Zbv (i := j) (by omega)]
      by_cases he : at_ (bl w) j = at_ (bl w) i
      ·rw [decide_eq_true he, decide_eq_false (by simpa using he)]; rfl
      ·rw [decide_eq_false he, decide_eq_true he]; rfl
     ·intro _ n
      simp only [ZcT, ZbZ]
      rw [decide_eq_false (by omega)]
    rw [h1']
    by_cases hm : at_ (bl w) i ∈ (bl w).take i
    ·rw [decide_eq_false (by simpa using hm), if_pos hm]; rfl
    ·rw [decide_eq_true hm, if_neg hm]
     simp only [if_true]
     rw [if_pos (by omega), Int.toNat_natCast, ZkZ (by omega), Zaf, Zib, Zbv (i := i) (by omega)]
     rw [← ZcB (by omega)]
     exact ih n (i + 1) _ (by omega) (by omega)
 exact key (bl w).length N 0 0 (by omega) (by omega)
end
end Go.VM.VL
set_option linter.unusedSimpArgs false
set_option linter.unusedVariables false
namespace Go.VM.VL
open Go
section
variable {R : Type} (N : Nat)
def B4 : List Int := [448, 56, 7, 511]
def L4 : List UInt8 := [117, 103, 111, 97]
def L3 : List UInt8 := [114, 119, 120]
def ZfO (h : List UInt8) : Option (Int × Int × UInt8) :=
 if Lib.indexAny h [43, 45, 61] < 1 then none else
  match ZaM L4 B4 [] (h.take (Lib.indexAny h [43, 45, 61]).toNat) 0, ZaM L3 [4, 2, 1] [] (h.drop ((Lib.indexAny h [43, 45, 61]).toNat + 1)) 0 with
  | some a, some b => some (a, Zog a (ZnL b), at_ h (Lib.indexAny h [43, 45, 61]).toNat)
  | _, _ => none
def ZiN (h : List UInt8) : Option Nat := (List.range' 0 h.length).findSome? fun i => if at_ h i = 43 ∨ at_ h i = 45 ∨ at_ h i = 61 then some i else none
def Zp1 (h : List UInt8) : Option (Int × Int × UInt8) :=
 match ZiN h with
 | none => none
 | some i => if i = 0 then none else
  match ZaM L4 B4 [] (h.take i) 0, ZaM L3 [292, 146, 73] [] (h.drop (i + 1)) 0 with
  | some a, some b => some (a, Zog a b, at_ h i)
  | _, _ => none
def apC (n : Int) : Int × Int × UInt8 → Int
 | (a, b, o) => if o = 43 then orI n b else if o = 45 then ZpG n b else orI (ZpG n a) b
def chg (n : Int) (c : Option (Int × Int × UInt8)) (k : Int → Bool → Option R) : Option R :=
 match inR n 0 511, c with
 | true, some t => k (apC n t) true
 | _, _ => k 0 false
def W1 : List (List UInt8) := [[117], [103], [111], [97], [117, 103], [103, 111], [117, 103, 111], [], [117, 117], [120]]
def W2 : List (List UInt8) := [[43], [45], [61], [43], [45], [61]]
def W3 : List (List UInt8) := [[114], [119], [120], [114, 119], [114, 119, 120], [], [114, 114], [122]]
def OkH (h : List UInt8) : Bool :=
 decide (h.length ≤ 10) && h.all (fun b => decide (b.toNat < 128)) && decide (ZfO h = Zp1 h) &&
 decide (Lib.indexAny h [43, 45, 61] < (h.length : Int)) && decide (-1 ≤ Lib.indexAny h [43, 45, 61]) &&
 (match ZaM L4 B4 [] (h.take (Lib.indexAny h [43, 45, 61]).toNat) 0 with | some a => decide (0 ≤ a) | none => true) &&
 (match ZiN h with
  | some i => (match ZaM L4 B4 [] (h.take i) 0 with | some a => decide (0 ≤ a) | none => true) && (match ZaM L3 [292, 146, 73] [] (h.drop (i + 1)) 0 with | some a => decide (0 ≤ a) | none => true)
  | none => true)
theorem ZpZ : (W1.all fun a => W2.all fun b => W3.all fun c => OkH (a ++ b ++ c)) = true := by decide +kernel
def okT (t : Int × Int × UInt8) : Bool := (List.range' 0 512).all fun n => decide (0 ≤ apC (n : Int) t) && decide (apC (n : Int) t < 512) && decide (apC (apC (n : Int) t) t = apC (n : Int) t)
def Ztu : List (Int × Int × UInt8) := ((W1.flatMap fun a => [[43], [45], [61]].flatMap fun b => W3.filterMap fun c => ZfO (a ++ b ++ c)) : List (Int × Int × UInt8)).eraseDups
theorem ZqA : Ztu.all okT = true := by decide +kernel
theorem inT : (W1.all fun a => W2.all fun b => W3.all fun c => match ZfO (a ++ b ++ c) with | some t => Ztu.contains t | none => true) = true := by decide +kernel
end
end Go.VM.VL
set_option linter.unusedSimpArgs false
set_option linter.unusedVariables false
namespace Go.VM.VL
open Go
section
variable {R : Type} (N : Nat)
theorem ZpS (n a b : Int) (o : UInt8) : apC n (a, b, o) = if o = 43 then orI n b else if o = 45 then ZpG n b else orI (ZpG n a) b := rfl
theorem Zeb (n : Int) (k : Bool → Option R) : Zjw N n k = k (inR n 0 511) := by
 rw [Zk4]; unfold ZiQ; rw [ZsD]
theorem Zdb (n : Int) (k : Bool → Option R) : Zmj N n k = k (inR n 0 511) := by
 rw [Zkx]; unfold ZhE; rw [ZsK]
structure HOk (h : List UInt8) : Prop where
 len : h.length ≤ 10
 asc : h.all (fun b => decide (b.toNat < 128)) = true
 eq : ZfO h = Zp1 h
 lt : Lib.indexAny h [43, 45, 61] < (h.length : Int)
 ge : -1 ≤ Lib.indexAny h [43, 45, 61]
 pos : ∀ i, ZiN h = some i → (∀ a, ZaM L4 B4 [] (h.take i) 0 = some a → 0 ≤ a) ∧ ∀ a, ZaM L3 [292, 146, 73] [] (h.drop (i + 1)) 0 = some a → 0 ≤ a
theorem Zrn {h : List UInt8} (q : OkH h = true) : HOk h := by
 unfold OkH at q
 simp only [Bool.and_eq_true, decide_eq_true_iff] at q
 obtain ⟨⟨⟨⟨⟨⟨q1, q2⟩, q3⟩, q4⟩, q5⟩, q6⟩, q7⟩ := q
 refine ⟨q1, q2, q3, q4, q5, fun i hi => ?_⟩
 rw [hi] at q7
 simp only [Bool.and_eq_true] at q7
 refine ⟨fun a ha => ?_, fun a ha => ?_⟩
 ·have := q7.1; rw [ha] at this; exact of_decide_eq_true this
 ·have := q7.2; rw [ha] at this; exact of_decide_eq_true this
theorem ZdI (b : UInt8) (c : UInt8) (n : Int) (hn : ((c.toNat : Nat) : Int) = n) : (((b.toNat : Nat) : Int) == n) = decide (b = c) := by
 rw [← hn, ZgD]
theorem ZeF {w : ByteArray} (h : HOk (bl w)) (hN : 1000 < N) (n : Int) (k : Int → Bool → Option R) : ZmJ N n w k = chg n (ZfO (bl w)) k := by
 rw [Zkg]
 unfold Zio
 rw [Zkv]
 unfold Zhz Zef
 have hlen := Zbd w
 have h1 := h.len
 have hlt := h.lt
 have hge := h.ge
 rw [if_pos ⟨by omega, by decide, h.asc, by decide⟩]
 show Zjw N n (fun b2 => _) = _
 have hx : Lib.indexAny w.data.toList (ByteArray.mk #[43, 45, 61]).data.toList = Lib.indexAny (bl w) [43, 45, 61] := rfl
 rw [Zeb, hx]
 unfold chg ZfO
 generalize Lib.indexAny (bl w) [43, 45, 61] = x at hlt hge
 cases hm : inR n 0 511 with
 | false => rfl
 | true =>
  simp only [Bool.not_true]
  by_cases hx1 : x < 1
  ·rw [decide_eq_true hx1, if_pos hx1]
  ·rw [decide_eq_false hx1, if_neg hx1]
   simp only
   obtain ⟨p, rfl⟩ := Int.eq_ofNat_of_zero_le (show 0 ≤ x by omega)
   have hw1 : IntKind.i64.wrap ((p : Int) + 1) = ((p + 1 : Nat) : Int) := by rw [ZaO (by omega) (by omega)]; omega
   have e1 : bl (ByteArray.extract w 0 p) = (bl w).take p := by rw [Zbu, List.drop_zero]
   have e2 : bl (ByteArray.extract w (p + 1) w.size) = (bl w).drop (p + 1) := by rw [Zbu, hlen, List.take_length]
   rw [if_pos (by omega), Int.toNat_natCast]
   have t1 := Zfe (R := R) N (w := ByteArray.extract w 0 p) (ls := ByteArray.mk #[117, 103, 111, 97]) (bits := B4) rfl ZtA (by have := ZcM w 0 p; omega) hN .sh
   have t2 := Zfe (R := R) N (w := ByteArray.extract w (p + 1) w.size) (ls := ByteArray.mk #[114, 119, 120]) (bits := [4, 2, 1]) rfl ZtC (by have := ZcM w (p + 1) w.size; omega) hN .sh
   rw [e1] at t1
   rw [e2] at t2
   refine (t1 _).trans ?_
   rw [hw1, Int.toNat_natCast]
   have rest : ∀ (x3 : Int) (b4 : Bool), (if (0 : Int) ≤ ((p + 1 : Nat) : Int) ∧ ((p + 1 : Nat) : Int) ≤ (w.size : Int) then ZlG N (ByteArray.extract w (p + 1) w.size) (ByteArray.mk #[114, 119, 120]) (ZdY [4, 2, 1]) .sh (fun x5 b6 => (match (!b4) with
    | true => k 0 false
    | false => (match (!b6) with
    | true => k 0 false
    | false => ZbC w (p : Int) fun n7 => (match (n7 == 43) with
     | true => k (orI n (Zog x3 (ZnL x5))) true
     | false => (match (n7 == 45) with
     | true => k (ZpG n (Zog x3 (ZnL x5))) true
     | false => k (orI (ZpG n x3) (Zog x3 (ZnL x5))) true))))) else none) = match b4, ZaM L3 [4, 2, 1] [] ((bl w).drop (p + 1)) 0 with
    | true, some b => k (apC n (x3, Zog x3 (ZnL b), at_ (bl w) p)) true
    | _, _ => k 0 false := by
    intro x3 b4
    rw [if_pos (by omega)]
    refine (t2 _).trans ?_
    show (match ZaM L3 [4, 2, 1] [] ((bl w).drop (p + 1)) 0 with | some a => _ | none => _) = _
    cases ZaM L3 [4, 2, 1] [] ((bl w).drop (p + 1)) 0 with
    | none => cases b4 <;> rfl
    | some b =>
     cases b4 with
     | false => rfl
     | true =>
      simp only [Bool.not_true]
      rw [ZaS w (by omega), ZdI _ 43 43 rfl, ZdI _ 45 45 rfl]
      rw [ZpS]
      by_cases h43 : at_ (bl w) p = 43
      ·rw [decide_eq_true h43, if_pos h43]
      ·rw [decide_eq_false h43, if_neg h43]
       by_cases h45 : at_ (bl w) p = 45
       ·rw [decide_eq_true h45, if_pos h45]
       ·rw [decide_eq_false h45, if_neg h45]
   show (match ZaM L4 B4 [] ((bl w).take p) 0 with | some a => _ | none => _) = _
   cases ZaM L4 B4 [] ((bl w).take p) 0 with
   | none => exact (rest 0 false).trans rfl
   | some a =>
    refine (rest a true).trans ?_
    cases ZaM L3 [4, 2, 1] [] ((bl w).drop (p + 1)) 0 <;> rfl
theorem ZpV {l : List UInt8} {i : Nat} (h : ZiN l = some i) : i < l.length := by
 unfold ZiN at h
 obtain ⟨j, hj, hq⟩ := List.exists_of_findSome?_eq_some h
 rw [List.mem_range'] at hj
 split at hq
 ·obtain rfl := Option.some.inj hq; omega
 ·cases hq
theorem Zg8 (b c : UInt8) (n : Int) (hn : ((c.toNat : Nat) : Int) = n) : (((b.toNat : Nat) : Int) != n) = decide (b ≠ c) := by
 rw [bne, ZdI b c n hn]
 by_cases h : b = c
 ·rw [decide_eq_true h, decide_eq_false (by simpa using h)]; rfl
 ·rw [decide_eq_false h, decide_eq_true h]; rfl
theorem ZrY {w : ByteArray} (h : HOk (bl w)) (hN : 1000 < N) (n : Int) (k : Int → Bool → Option R) : Zo1 N n w k = chg n (ZfO (bl w)) k := by
 rw [Zlg]
 unfold ZiH
 have hlen := Zbd w
 have h1 := h.len
 have h0 : ∀ (k0 : Int → Option R), Zc0 N n w k0 N 0 = match ZiN (bl w) with | some i => k0 (i : Int) | none => k0 (w.size : Int) := by
  intro k0
  refine (ZcA (β := Nat) (l := fun m i => Zc0 N n w k0 m (i : Int)) (len := (bl w).length) (q := fun i => if at_ (bl w) i = 43 ∨ at_ (bl w) i = 45 ∨ at_ (bl w) i = 61 then some i else none) (kb := fun i => k0 (i : Int)) (k1 := k0 (w.size : Int)) ?_ ?_ (show (bl w).length < N by omega)).trans ?_
  ·intro m i hi _
   simp only [Zc0, ZbW]
   rw [decide_eq_true (by omega)]
   simp only
   rw [ZaS w hi, ZaS w hi, ZaS w hi, Zg8 _ 43 43 rfl, Zg8 _ 45 45 rfl, Zg8 _ 61 61 rfl, Zbv (i := i) (by omega)]
   by_cases h43 : at_ (bl w) i = 43
   ·rw [decide_eq_false (by simpa using h43), if_pos (.inl h43)]
   ·rw [decide_eq_true h43]
    by_cases h45 : at_ (bl w) i = 45
    ·rw [decide_eq_false (by simpa using h45), if_pos (.inr (.inl h45))]
    ·rw [decide_eq_true h45]
     by_cases h61 : at_ (bl w) i = 61
     ·rw [decide_eq_false (by simpa using h61), if_pos (.inr (.inr h61))]
     ·rw [decide_eq_true h61, if_neg (by simp [h43, h45, h61])]
  ·intro _ m
   simp only [Zc0, ZbW]
   rw [decide_eq_false (by omega), hlen]
  ·unfold ZiN
   generalize (List.range' 0 (bl w).length).findSome? _ = o
   cases o <;> rfl
 rw [h0, h.eq]
 unfold chg Zp1
 cases hs : ZiN (bl w) with
 | none =>
  simp only
  rw [Zdb]
  cases inR n 0 511 with
  | false => rfl
  | true =>
   simp only [Bool.not_true]
   rw [show ((w.size : Int) == (w.size : Int)) = true by simp]
   cases ((w.size : Int) == 0) <;> rfl
 | some p =>
  have hp := ZpV hs
  obtain ⟨p1, p2⟩ := h.pos p hs
  simp only
  rw [Zdb]
  cases inR n 0 511 with
  | false => rfl
  | true =>
   simp only [Bool.not_true]
   by_cases hp0 : p = 0
   ·rw [hp0, if_pos rfl]; rfl
   ·rw [if_neg hp0, show ((p : Int) == 0) = false from beq_false_of_ne (by omega), show ((p : Int) == (w.size : Int)) = false from beq_false_of_ne (by omega)]
    simp only
    have hw1 : IntKind.i64.wrap ((p : Int) + 1) = ((p + 1 : Nat) : Int) := by rw [ZaO (by omega) (by omega)]; omega
    have e1 : bl (ByteArray.extract w 0 p) = (bl w).take p := by rw [Zbu, List.drop_zero]
    have e2 : bl (ByteArray.extract w (p + 1) w.size) = (bl w).drop (p + 1) := by rw [Zbu, hlen, List.take_length]
    rw [if_pos (by omega), Int.toNat_natCast]
    have t1 := Zfm (R := R) N (w := ByteArray.extract w 0 p) (ls := ByteArray.mk #[117, 103, 111, 97]) (bits := B4) rfl (by have := ZcM w 0 p; omega) (by decide) hN .sh
    have t2 := Zfm (R := R) N (w := ByteArray.extract w (p + 1) w.size) (ls := ByteArray.mk #[114, 119, 120]) (bits := [292, 146, 73]) rfl (by have := ZcM w (p + 1) w.size; omega) (by decide) hN .sh
    rw [e1] at t1
    rw [e2] at t2
    refine (t1 _).trans ?_
    rw [hw1, Int.toNat_natCast]
    have rest : ∀ (x9 : Int), (if (0 : Int) ≤ ((p + 1 : Nat) : Int) ∧ ((p + 1 : Nat) : Int) ≤ (w.size : Int) then Zlv N (ByteArray.extract w (p + 1) w.size) (ByteArray.mk #[114, 119, 120]) (ZdY [292, 146, 73]) .sh (fun x10 => (match decide (x9 < 0) with
     | true => k 0 false
     | false => (match decide (x10 < 0) with
     | true => k 0 false
     | false => ZbC w (p : Int) fun n11 => (match (n11 == 43) with
      | true => k (orI n (Zog x9 x10)) true
      | false => (match (n11 == 45) with
      | true => k (ZpG n (Zog x9 x10)) true
      | false => k (orI (ZpG n x9) (Zog x9 x10)) true))))) else none) = match decide (x9 < 0), ZaM L3 [292, 146, 73] [] ((bl w).drop (p + 1)) 0 with
     | false, some b => k (apC n (x9, Zog x9 b, at_ (bl w) p)) true
     | _, _ => k 0 false := by
     intro x9
     rw [if_pos (by omega)]
     refine (t2 _).trans ?_
     show (match ZaM L3 [292, 146, 73] [] ((bl w).drop (p + 1)) 0 with | some a => _ | none => _) = _
     cases hb : ZaM L3 [292, 146, 73] [] ((bl w).drop (p + 1)) 0 with
     | none => cases decide (x9 < 0) <;> rfl
     | some b =>
      have hb0 := p2 b hb
      cases decide (x9 < 0) with
      | true => rfl
      | false =>
       simp only
       rw [decide_eq_false (by omega : ¬ b < 0)]
       simp only
       rw [ZaS w (by omega), ZdI _ 43 43 rfl, ZdI _ 45 45 rfl]
       rw [ZpS]
       by_cases h43 : at_ (bl w) p = 43
       ·rw [decide_eq_true h43, if_pos h43]
       ·rw [decide_eq_false h43, if_neg h43]
        by_cases h45 : at_ (bl w) p = 45
        ·rw [decide_eq_true h45, if_pos h45]
        ·rw [decide_eq_false h45, if_neg h45]
    show (match ZaM L4 B4 [] ((bl w).take p) 0 with | some a => _ | none => _) = _
    cases ha : ZaM L4 B4 [] ((bl w).take p) 0 with
    | none => exact (rest (-1)).trans rfl
    | some a =>
     have ha0 := p1 a ha
     refine (rest a).trans ?_
     rw [decide_eq_false (by omega : ¬ a < 0)]
     cases ZaM L3 [292, 146, 73] [] ((bl w).drop (p + 1)) 0 <;> rfl
end
end Go.VM.VL
set_option linter.unusedSimpArgs false
set_option linter.unusedVariables false
namespace Go.VM.VL
open Go
section
variable (N : Nat)
theorem ZfN {e : List V} (he : Zbr e) (f : Fl) : ∃ m : Nat, m < 1024 ∧ ∀ (R : Type) (k : Int → Option R), Zo7 N e f k = k (m : Int) := by
 obtain ⟨v, a1, s1, p1, p2, p3, p4, p5⟩ := Zk7 N he f.noOwn.noOwn 0 (at_ := 0) (by omega) (by unfold ZaX; omega)
 obtain ⟨x, a2, s2, q1, q2, q3, q4, q5⟩ := Zd7 N he f.noOwn.noOwn s1 20 (at_ := a1) (by omega) (by unfold ZaX; omega)
 have hd : Int.tdiv x 19 = 0 ∨ Int.tdiv x 19 = 1 := by rw [Int.tdiv_eq_ediv_of_nonneg q1]; omega
 have hm : ∃ m : Nat, m < 1024 ∧ IntKind.i64.wrap (v + IntKind.i64.wrap (IntKind.i64.wrap (Int.tdiv x 19) * 512)) = (m : Int) := by
  rcases hd with h | h
  ·refine ⟨v.toNat, by omega, ?_⟩
   rw [h, show IntKind.i64.wrap (IntKind.i64.wrap 0 * 512) = 0 from rfl, ZaO (by omega) (by omega)]
   omega
  ·refine ⟨v.toNat + 512, by omega, ?_⟩
   rw [h, show IntKind.i64.wrap (IntKind.i64.wrap 1 * 512) = 512 from rfl, ZaO (by omega) (by omega)]
   omega
 obtain ⟨m, hm1, hm2⟩ := hm
 refine ⟨m, hm1, fun R k => ?_⟩
 rw [Zk0]
 unfold ZhZ
 refine (p5 R _).trans ((q5 R _).trans ?_)
 rw [hm2]
theorem ZeM (m : Nat) : (ZgA m).size = 9 := rfl
theorem Zgn (m : Nat) : (Ze5 m).size = 3 := rfl
theorem ZfQ {e : List V} (he : Zbr e) (f : Fl) (hN : 100 < N) : ∃ w : ByteArray, w.size ≤ 100 ∧ ∀ (R : Type) (k : ByteArray → Option R), Zn9 N e f k = k w := by
 obtain ⟨v, a1, s1, p1, p2, p3, p4, p5⟩ := Zk7 N he f.noOwn.noOwn 0 (at_ := 0) (by omega) (by unfold ZaX; omega)
 obtain ⟨m, rfl⟩ := Int.eq_ofNat_of_zero_le p1
 obtain ⟨b, a2, s2, q1, q2, q3⟩ := Zp6 N he f.noOwn.noOwn s1 3 (at_ := a1) (by omega) (by unfold ZaX; omega)
 obtain ⟨w', a3, s3, c1, c2, c3, c4⟩ := ZkT N he f.noOwn.noOwn (b := ByteArray.mk #[114, 119, 120, 45]) (by decide) (by decide) hN (w := ZgA m) (by rw [ZeM]; omega) s2 (at0 := a2) (by omega) (by unfold ZaX; omega)
 rw [ZeM] at c1
 have go : ∀ (R : Type) (k : ByteArray → Option R), Zn9 N e f k = match b with
   | true => k w'
   | false => k (ZgA m) := fun R k => by
  rw [Zk5]
  unfold ZhH
  refine (p5 R _).trans ?_
  rw [Zfd N (by omega) hN]
  refine (q3 R _).trans ?_
  cases b with
  | true => exact c4 R _
  | false => rfl
 cases b with
 | true => exact ⟨w', by omega, go⟩
 | false => exact ⟨ZgA m, by rw [ZeM]; omega, go⟩
theorem Zfx {e : List V} (he : Zbr e) (f : Fl) (hN : 100 < N) : ∃ w : ByteArray, w.size ≤ 100 ∧ ∀ (R : Type) (k : ByteArray → Option R), Zno N e f k = k w := by
 obtain ⟨v, a1, s1, p1, p2, p3, p4, p5⟩ := Zk7 N he f.noOwn.noOwn 0 (at_ := 0) (by omega) (by unfold ZaX; omega)
 obtain ⟨m, rfl⟩ := Int.eq_ofNat_of_zero_le p1
 obtain ⟨b, a2, s2, q1, q2, q3⟩ := Zp6 N he f.noOwn.noOwn s1 3 (at_ := a1) (by omega) (by unfold ZaX; omega)
 obtain ⟨w', a3, s3, c1, c2, c3, c4⟩ := ZkT N he f.noOwn.noOwn (b := ByteArray.mk #[48, 55, 56, 57]) (by decide) (by decide) hN (w := Ze5 m) (by rw [Zgn]; omega) s2 (at0 := a2) (by omega) (by unfold ZaX; omega)
 rw [Zgn] at c1
 have go : ∀ (R : Type) (k : ByteArray → Option R), Zno N e f k = match b with
   | true => k w'
   | false => k (Ze5 m) := fun R k => by
  rw [Zlf]
  unfold Zin
  refine (p5 R _).trans ?_
  rw [Zfb N (by omega) hN]
  refine (q3 R _).trans ?_
  cases b with
  | true => exact c4 R _
  | false => rfl
 cases b with
 | true => exact ⟨w', by omega, go⟩
 | false => exact ⟨Ze5 m, by rw [Zgn]; omega, go⟩
theorem ZnW : (∀ l ∈ W1, l.length ≤ 3) ∧ (∀ l ∈ W2, l.length ≤ 3) ∧ ∀ l ∈ W3, l.length ≤ 3 := by decide
theorem ZeH {e : List V} (he : Zbr e) (f : Fl) : ∃ (n : Nat) (w : ByteArray), n < 512 ∧ HOk (bl w) ∧ (match ZfO (bl w) with | some t => okT t = true | none => True) ∧ ∀ (R : Type) (k : Int → ByteArray → Option R), Zos N e f k = k (n : Int) w := by
 obtain ⟨v, a1, s1, p1, p2, p3, p4, p5⟩ := Zk7 N he f.noOwn.noOwn 0 (at_ := 0) (by omega) (by unfold ZaX; omega)
 obtain ⟨n, rfl⟩ := Int.eq_ofNat_of_zero_le p1
 obtain ⟨x, a2, s2, x1, x2, x3, x4⟩ := ZsL N he f.noOwn.noOwn s1 (W1.map ba) .sh (by simp [W1]) (at0 := a1) (by omega) (by unfold ZaX; omega)
 obtain ⟨y, a3, s3, y1, y2, y3, y4⟩ := ZsL N he f.noOwn.noOwn s2 (W2.map ba) .sh (by simp [W2]) (at0 := a2) (by omega) (by unfold ZaX; omega)
 obtain ⟨z, a4, s4, z1, z2, z3, z4⟩ := ZsL N he f.noOwn.noOwn s3 (W3.map ba) .sh (by simp [W3]) (at0 := a3) (by omega) (by unfold ZaX; omega)
 obtain ⟨lx, hx, rfl⟩ := List.mem_map.1 x1
 obtain ⟨ly, hy, rfl⟩ := List.mem_map.1 y1
 obtain ⟨lz, hz, rfl⟩ := List.mem_map.1 z1
 have hb : bl ((ba lx ++ ba ly) ++ ba lz) = lx ++ ly ++ lz := by rw [Zf7, Zf7]; rfl
 have ok : OkH (lx ++ ly ++ lz) = true := List.all_eq_true.1 (List.all_eq_true.1 (List.all_eq_true.1 ZpZ lx hx) ly hy) lz hz
 have hin := List.all_eq_true.1 (List.all_eq_true.1 (List.all_eq_true.1 inT lx hx) ly hy) lz hz
 have s1' : (ba lx).size ≤ 3 := by rw [Zbd]; exact ZnW.1 lx hx
 have s2' : (ba ly).size ≤ 3 := by rw [Zbd]; exact ZnW.2.1 ly hy
 have s3' : (ba lz).size ≤ 3 := by rw [Zbd]; exact ZnW.2.2 lz hz
 refine ⟨n, (ba lx ++ ba ly) ++ ba lz, by omega, by rw [hb]; exact Zrn ok, ?_, fun R k => ?_⟩
 ·rw [hb]
  cases hc : ZfO (lx ++ ly ++ lz) with
  | none => trivial
  | some t =>
   rw [hc] at hin
   exact List.all_eq_true.1 ZqA t (by simpa using hin)
 ·rw [Zk8]
  unfold Zim
  refine (p5 R _).trans ((x4 R _).trans ((y4 R _).trans ?_))
  rw [if_pos (by omega)]
  refine (z4 R _).trans ?_
  rw [if_pos (by rw [Zb9]; omega)]
theorem Zqp (w : ByteArray) : ∃ v b, ∀ (R : Type) (k : Int → Bool → Option R), Zie w k = k v b := by
 by_cases h : ZgA (Zoe w) = w
 ·exact ⟨_, _, fun R k => if_pos h⟩
 ·exact ⟨_, _, fun R k => if_neg h⟩
theorem ZqX (w : ByteArray) : ∃ v b, ∀ (R : Type) (k : Int → Bool → Option R), ZjN w k = k v b := by
 by_cases h : w.size = 3 ∧ Ze5 (ZfB (bl w)) = w
 ·exact ⟨_, _, fun R k => if_pos h⟩
 ·exact ⟨_, _, fun R k => if_neg h⟩
theorem Zq2 {t : Int × Int × UInt8} (h : okT t = true) {n : Nat} (hn : n < 512) : 0 ≤ apC (n : Int) t ∧ apC (n : Int) t < 512 ∧ apC (apC (n : Int) t) t = apC (n : Int) t := by
 unfold okT at h
 have := Zij.1 h n hn
 simp only [Bool.and_eq_true, decide_eq_true_iff] at this
 exact ⟨this.1.1, this.1.2, this.2⟩
theorem ZtB {R : Type} {e1 : List V} {f2 : Fl} {e3 : List V} {f4 : Fl} (h3 : Zbr e3) (hN : 1048580 < N) (k : Bool → Option R) : Zky N e1 f2 e3 f4 k = k true := by
 unfold Zky
 obtain ⟨w, d1, d2⟩ := ZfQ N h3 f4.noOwn.noOwn (by omega)
 obtain ⟨u, u1, u2⟩ := Zfx N h3 f4.noOwn.noOwn (by omega)
 obtain ⟨n, h, n1, n2, n3, n4⟩ := ZeH N h3 f4.noOwn.noOwn
 obtain ⟨v1, b1, r1⟩ := Zqp w
 obtain ⟨v2, b2, r2⟩ := ZqX u
 refine (d2 R _).trans ?_
 rw [Zgl N (by omega) (by omega), r1, ZsY N (by omega), r1]
 refine (u2 R _).trans ?_
 rw [Zfj N (by omega), r2, Zsx N (by omega), r2]
 refine (n4 R _).trans ?_
 rw [ZeF N n2 (by omega)]
 have hr : inR (n : Int) 0 511 = true := ZdC.2 (by omega)
 unfold chg
 rw [hr]
 cases hc : ZfO (bl h) with
 | none =>
  simp only
  rw [ZrY N n2 (by omega), hc]
  unfold chg
  rw [hr]
  simp only [beq_self_eq_true, Bool.not_true, bne_self_eq_false]
 | some t =>
  rw [hc] at n3
  obtain ⟨o1, o2, o3⟩ := Zq2 n3 n1
  have hr2 : inR (apC (n : Int) t) 0 511 = true := ZdC.2 (by omega)
  simp only
  rw [ZrY N n2 (by omega), hc]
  unfold chg
  rw [hr]
  simp only [beq_self_eq_true, Bool.not_true, bne_self_eq_false]
  rw [ZeF N n2 (by omega), hc]
  unfold chg
  rw [hr2]
  simp only
  rw [o3, beq_self_eq_true, decide_eq_true o1, decide_eq_true o2]
theorem ZlA {R : Type} {m : Nat} (hm : m < 512) (hN : 100 < N) (k : ByteArray → Bool → Option R) : ZoD N (m : Int) k = k (ZgA m) true := by
 rw [Zha]; unfold Zf6
 rw [Zeb, ZdC.2 (by omega)]
 simp only [Bool.not_true]
 rw [ZfV N hm hN]
theorem Ztf {R : Type} {m : Nat} (hm : m < 512) (hN : 100 < N) (k : ByteArray → Bool → Option R) : Zph N (m : Int) k = k (ZgA m) true := by
 rw [ZgB]; unfold ZfX
 rw [Zdb, ZdC.2 (by omega)]
 simp only [Bool.not_true]
 rw [Zfd N hm hN]
theorem Zjy {R : Type} {m : Nat} (hm : m < 512) (k : ByteArray → Bool → Option R) : Zpb N (m : Int) k = k (Ze5 m) true := by
 rw [Zg9]; unfold Zf3
 rw [Zeb, ZdC.2 (by omega)]
 simp only [Bool.not_true]
 rw [Zfz N hm]
theorem Zs1 {R : Type} {m : Nat} (hm : m < 512) (hN : 100 < N) (k : ByteArray → Bool → Option R) : ZoN N (m : Int) k = k (Ze5 m) true := by
 rw [ZgZ]; unfold Zgf
 rw [Zdb, ZdC.2 (by omega)]
 simp only [Bool.not_true]
 rw [Zfb N hm hN]
theorem Zqy {m : Nat} (hm : ¬ m < 512) : inR (m : Int) 0 511 = false := by
 cases h : inR (m : Int) 0 511 with
 | false => rfl
 | true => have := ZdC.1 h; omega
theorem ZtD {R : Type} {e1 : List V} {f2 : Fl} {e3 : List V} {f4 : Fl} (h1 : Zbr e1) (hN : 1048580 < N) {j : V → V → V → V → V → V → V → V → V → V → V → V → V → V → V → V → V → V → V → V → V → V → V → V → V → V → V → V → V → V → V → V → V → V → V → V → V → V → V → V → V → V → V → V → V → V → V → V → V → V → V → V → V → V → V → V → V → V → V → V → V → V → V → V → V → V → V → V → V → V → V → V → V → V → V → V → V → V → V → V → V → Option R} {k : Bool → Option R} {r : Option R} (hj : ∀ d0 d1 d2 d3 d4 d5 d6 d7 d8 d9 d10 d11 d12 d13 d14 d15 d16 d17 d18 d19 d20 d21 d22 d23 d24 d25 d26 d27 d28 d29 d30 d31 d32 d33 d34 d35 d36 d37 d38 d39 d40 d41 d42 d43 d44 d45 d46 d47 d48 d49 d50 d51 d52 d53 d54 d55 d56 d57 d58 d59 d60 d61 d62 d63 d64 d65 d66 d67 d68 d69 d70 d71 d72 d73 d74 d75 d76 d77 d78 d79 d80 : V, j d0 d1 d2 d3 d4 d5 d6 d7 d8 d9 d10 d11 d12 d13 d14 d15 d16 d17 d18 d19 d20 d21 d22 d23 d24 d25 d26 d27 d28 d29 d30 d31 d32 d33 d34 d35 d36 d37 d38 d39 d40 d41 d42 d43 d44 d45 d46 d47 d48 d49 d50 d51 d52 d53 d54 d55 d56 d57 d58 d59 d60 d61 d62 d63 d64 d65 d66 d67 d68 d69 d70 d71 d72 d73 d74 d75 d76 d77 d78 d79 d80 = r) (hk : k true = r) : Zh2 N e1 f2 e3 f4 j k = r := by
 unfold Zh2
 have hbig : ∀ K : Bool → Option R, K true = r → K false = r → Zpn N e1 f2.noOwn.noOwn e3 f4.noOwn.noOwn K = r := by
  intro K k1 k2
  rw [ZkS]
  unfold Ziy
  cases decide ((e1.length : Int) > 1048576) with
  | true => exact k1
  | false =>
   simp only
   generalize decide ((e3.length : Int) > IntKind.i64.wrap (1048576 - (e1.length : Int))) = b
   cases b
   ·exact k2
   ·exact k1
 refine hbig _ hk ?_
 simp only
 obtain ⟨m, q1, q2⟩ := ZfN N h1 f2.noOwn.noOwn
 refine (q2 R _).trans ?_
 by_cases hm : m < 512
 ·have e1' : Zie (ZgA m) = fun (k : Int → Bool → Option R) => k (m : Int) true := by
   funext k
   unfold Zie
   rw [Zn4 ⟨m, hm⟩, if_pos rfl]
  have e2' : ZjN (Ze5 m) = fun (k : Int → Bool → Option R) => k (m : Int) true := by
   funext k
   unfold ZjN
   have : ZfB (bl (Ze5 m)) = m := ZmG ⟨m, hm⟩
   rw [this, if_pos ⟨rfl, rfl⟩]
  rw [ZlA N hm (by omega), Ztf N hm (by omega), Zjy N hm, Zs1 N hm (by omega)]
  simp only [beq_self_eq_true, Bool.not_true]
  rw [Zgl N (by rw [ZeM]; omega) (by omega), e1']
  simp only
  rw [Zfj N (by omega), e2']
  simp only [bne_self_eq_false, Bool.not_true]
  exact hj _ _ _ _ _ _ _ _ _ _ _ _ _ _ _ _ _ _ _ _ _ _ _ _ _ _ _ _ _ _ _ _ _ _ _ _ _ _ _ _ _ _ _ _ _ _ _ _ _ _ _ _ _ _ _ _ _ _ _ _ _ _ _ _ _ _ _ _ _ _ _ _ _ _ _ _ _ _ _ _ _
 ·have hr := Zqy hm
  rw [Zha]; unfold Zf6
  rw [Zeb, hr]
  simp only [Bool.not_false]
  rw [ZgB]; unfold ZfX
  rw [Zdb, hr]
  simp only [Bool.not_false]
  rw [Zg9]; unfold Zf3
  rw [Zeb, hr]
  simp only [Bool.not_false]
  rw [ZgZ]; unfold Zgf
  rw [Zdb, hr]
  simp only [Bool.not_false, beq_self_eq_true, Bool.not_true]
  exact hj _ _ _ _ _ _ _ _ _ _ _ _ _ _ _ _ _ _ _ _ _ _ _ _ _ _ _ _ _ _ _ _ _ _ _ _ _ _ _ _ _ _ _ _ _ _ _ _ _ _ _ _ _ _ _ _ _ _ _ _ _ _ _ _ _ _ _ _ _ _ _ _ _ _ _ _ _ _ _ _ _
theorem law_FnModes {R : Type} {e1 : List V} {f2 : Fl} {e3 : List V} {f4 : Fl} (h1 : Zbr e1) (h3 : Zbr e3) (hN : 1048580 < N) (k : Bool → Option R) : Zfv N e1 f2 e3 f4 k = k true := by
 unfold Zfv
 refine ZtD N h1 hN ?_ rfl
 intros
 exact ZtB N h3 hN k
end
end Go.VM.VL
