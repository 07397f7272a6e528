/- The copies and the likenesses of lists of numbers and of events, told plainly. -/
import Derived.Test.YtolpjohajdkgfaaVLOrd
import Derived.Test.YtolpjohajdkgfaaTLib
set_option linter.unusedSimpArgs false
set_option linter.unusedVariables false
namespace Go.VM.VL
open Go.Proofs

def ints (xs : List Int) : List V := xs.map (fun x => .int .i64 x)
abbrev Ev := Int × Int × Int
def evV (e : Ev) : V := .agg [.int .i64 e.1, .int .i64 e.2.1, .int .i64 e.2.2]
def evs (l : List Ev) : List V := l.map evV
def bools (l : List Bool) : List V := l.map (fun b => .bool b)

theorem nth_map0 {α β : Type} (f : α → β) (l : List α) (i : Nat) : nth (l.map f) i = (nth l i).map f := by rw [nth_eq, nth_eq, List.getElem?_map]
theorem setAt_map {α β : Type} (f : α → β) (l : List α) (i : Nat) (v : α) : setAt (l.map f) i (f v) = (setAt l i v).map f := by rw [setAt_eq, setAt_eq, List.map_set]
theorem nth_get {α : Type} {l : List α} {i : Nat} (h : i < l.length) : nth l i = some l[i] := by rw [nth_eq, List.getElem?_eq_getElem h]
theorem nth_setAt_at {α : Type} {l : List α} {i : Nat} {v : α} (h : i < l.length) : nth (setAt l i v) i = some v := by rw [nth_eq, setAt_eq, List.getElem?_set_self h]

theorem mapSome_self {α : Type} {f : α → Option α} : ∀ {l : List α}, (∀ v ∈ l, f v = some v) → mapSome f l = some l
  | [], _ => rfl
  | a :: l, h => by
    simp only [mapSome, h a (by simp), mapSome_self (l := l) fun v hv => h v (by simp [hv])]

/-- So far the copy is like the list. -/
def Copied {α : Type} (xs ys : List α) (i : Nat) : Prop := ys.length = xs.length ∧ ∀ j, j < i → nth ys j = nth xs j
theorem Copied.put {α : Type} {xs ys : List α} {i : Nat} (h : Copied xs ys i) (hi : i < xs.length) : Copied xs (setAt ys i xs[i]) (i + 1) := by
  refine ⟨by rw [length_setAt]; exact h.1, fun j hj => ?_⟩
  by_cases hij : i = j
  · subst hij
    rw [nth_setAt_at (by rw [h.1]; exact hi), nth_get hi]
  · rw [nth_setAt_ne hij]
    exact h.2 j (by omega)
theorem Copied.all {α : Type} {xs ys : List α} (h : Copied xs ys xs.length) : ys = xs := by
  apply List.ext_getElem?
  intro j
  by_cases hj : j < xs.length
  · have := h.2 j hj
    rwa [nth_eq, nth_eq] at this
  · rw [List.getElem?_eq_none (by rw [h.1]; omega), List.getElem?_eq_none (by omega)]

variable {R : Type} (N : Nat)

theorem toIntS_l (xs : List Int) (f : Fl) (k0 : List V → Option R) (hx : xs.length ≤ 1048576) : ∀ (d n i : Nat) (ys : List Int), i + d = xs.length → d < n → Copied xs ys i →
    l_laws_toIntS_0 N (ints xs) f xs.length k0 n (i : Int) (ints ys) = k0 (ints xs) := by
  intro d
  induction d with
  | zero =>
    intro n i ys hi hn hc
    obtain ⟨n, rfl⟩ : ∃ m, n = m + 1 := ⟨n - 1, by omega⟩
    show l_laws_toIntS_0_step N _ f _ _ _ _ k0 = _
    unfold l_laws_toIntS_0_step
    rw [decide_eq_false (by simp [ints]; omega)]
    obtain rfl : i = xs.length := by omega
    rw [hc.all]
  | succ d ih =>
    intro n i ys hi hn hc
    obtain ⟨n, rfl⟩ : ∃ m, n = m + 1 := ⟨n - 1, by omega⟩
    have hlt : i < xs.length := by omega
    show l_laws_toIntS_0_step N _ f _ _ _ _ k0 = _
    unfold l_laws_toIntS_0_step
    rw [decide_eq_true (by simp [ints]; omega)]
    simp only [if_pos (show (0 : Int) ≤ (i : Int) by omega), Int.toNat_natCast, ints, nth_map0, nth_get hlt, Option.map_some, must, asInt, if_true, Nat.zero_add, nth_get (show i < ys.length by rw [hc.1]; exact hlt),
      if_pos (show (0 : Int) ≤ (i : Int) ∧ (i : Int) < (xs.length : Int) by omega), putCells]
    rw [wrap_i64 (by omega) (by omega), setAt_map (fun x => V.int .i64 x)]
    exact ih n (i + 1) _ (by omega) (by omega) (hc.put hlt)

theorem t_toIntS {xs : List Int} (hx : xs.length ≤ 1048576) (hN : 1048576 < N) (f : Fl) (k : List V → Option R) : g_laws_toIntS N (ints xs) f k = k (ints xs) := by
  rw [g_laws_toIntS_eq]
  unfold gb_laws_toIntS
  have hl : (ints xs).length = xs.length := by simp [ints]
  rw [hl, if_pos (by omega), Int.toNat_natCast]
  have := toIntS_l N xs f (fun e9 => (match mapSome (freeze false [some ⟨e9, 1, 3, 0⟩] 11) ((e9.drop 0).take xs.length) with
     | some e10 => guardB (decide (0 + xs.length ≤ e9.length)) (guardB (e10.all V.plain) (k e10))
     | none => none)) hx xs.length N 0 (List.replicate xs.length 0) (by omega) (by omega) ⟨by simp, fun j hj => by omega⟩
  have e : ints (List.replicate xs.length 0) = List.replicate xs.length (.int .i64 0) := by simp [ints]
  rw [e] at this
  refine this.trans ?_
  rw [List.drop_zero, ← hl, List.take_length, mapSome_self (fun v hv => by
    obtain ⟨x, _, rfl⟩ := List.mem_map.1 hv
    rfl)]
  simp only [Nat.zero_add, Nat.le_refl, decide_true, guardB]
  have : (ints xs).all V.plain = true := List.all_eq_true.2 fun v hv => by
    obtain ⟨x, _, rfl⟩ := List.mem_map.1 hv
    rfl
  rw [this]

theorem un_evV (e : Ev) (k : Int → Int → Int → Option R) : un_T104 (evV e) k = k e.1 e.2.1 e.2.2 := rfl
theorem un_evV' (e : Ev) (k : Int → Int → Int → Option R) : un_T106 (evV e) k = k e.1 e.2.1 e.2.2 := rfl
theorem t_toEvent (a b c : Int) (k : Int → Int → Int → Option R) : g_laws_toEvent N a b c k = k a b c := by rw [g_laws_toEvent_eq]; rfl

theorem toEventS_l (xs : List Ev) (f : Fl) (k0 : List V → Option R) (hx : xs.length ≤ 1048576) : ∀ (d n i : Nat) (ys : List Ev), i + d = xs.length → d < n → Copied xs ys i →
    l_laws_toEventS_0 N (evs xs) f xs.length k0 n (i : Int) (evs ys) = k0 (evs xs) := by
  intro d
  induction d with
  | zero =>
    intro n i ys hi hn hc
    obtain ⟨n, rfl⟩ : ∃ m, n = m + 1 := ⟨n - 1, by omega⟩
    show l_laws_toEventS_0_step N _ f _ _ _ _ k0 = _
    unfold l_laws_toEventS_0_step
    rw [decide_eq_false (by simp [evs]; omega)]
    obtain rfl : i = xs.length := by omega
    rw [hc.all]
  | succ d ih =>
    intro n i ys hi hn hc
    obtain ⟨n, rfl⟩ : ∃ m, n = m + 1 := ⟨n - 1, by omega⟩
    have hlt : i < xs.length := by omega
    show l_laws_toEventS_0_step N _ f _ _ _ _ k0 = _
    unfold l_laws_toEventS_0_step
    rw [decide_eq_true (by simp [evs]; omega)]
    have hput : ∀ e : Ev, putCells (evV e) 0 [.int .i64 xs[i].1, .int .i64 xs[i].2.1, .int .i64 xs[i].2.2] = some (evV xs[i]) := fun e => rfl
    simp only [if_pos (show (0 : Int) ≤ (i : Int) by omega), Int.toNat_natCast, evs, nth_map0, nth_get hlt, Option.map_some, must, un_evV', t_toEvent, Nat.zero_add, nth_get (show i < ys.length by rw [hc.1]; exact hlt),
      if_pos (show (0 : Int) ≤ (i : Int) ∧ (i : Int) < (xs.length : Int) by omega), hput]
    rw [wrap_i64 (by omega) (by omega), setAt_map evV]
    exact ih n (i + 1) _ (by omega) (by omega) (hc.put hlt)

theorem t_toEventS {xs : List Ev} (hx : xs.length ≤ 1048576) (hN : 1048576 < N) (f : Fl) (k : List V → Option R) : g_laws_toEventS N (evs xs) f k = k (evs xs) := by
  rw [g_laws_toEventS_eq]
  unfold gb_laws_toEventS
  have hl : (evs xs).length = xs.length := by simp [evs]
  rw [hl, if_pos (by omega), Int.toNat_natCast]
  have := toEventS_l N xs f (fun e9 => (match mapSome (freeze false [some ⟨e9, 3, 104, 0⟩] 11) ((e9.drop 0).take xs.length) with
     | some e10 => guardB (decide (0 + xs.length ≤ e9.length)) (guardB (e10.all V.plain) (k e10))
     | none => none)) hx xs.length N 0 (List.replicate xs.length (0, 0, 0)) (by omega) (by omega) ⟨by simp, fun j hj => by omega⟩
  have e : evs (List.replicate xs.length (0, 0, 0)) = List.replicate xs.length (.agg [.int .i64 0, .int .i64 0, .int .i64 0]) := by simp [evs, evV]
  rw [e] at this
  refine this.trans ?_
  rw [List.drop_zero, ← hl, List.take_length, mapSome_self (fun v hv => by
    obtain ⟨x, _, rfl⟩ := List.mem_map.1 hv
    rfl)]
  simp only [Nat.zero_add, Nat.le_refl, decide_true, guardB]
  have : (evs xs).all V.plain = true := List.all_eq_true.2 fun v hv => by
    obtain ⟨x, _, rfl⟩ := List.mem_map.1 hv
    rfl
  rw [this]

theorem eqIntS_l (xs : List Int) (f1 f2 : Fl) (k0 k1 : Unit → Option R) (hx : xs.length ≤ 1048576) : ∀ (d n i : Nat), i + d = xs.length → d < n →
    l_laws_eqIntS_0 N (ints xs) f1 (ints xs) f2 k0 k1 n (i : Int) = k1 () := by
  intro d
  induction d with
  | zero =>
    intro n i hi hn
    obtain ⟨n, rfl⟩ : ∃ m, n = m + 1 := ⟨n - 1, by omega⟩
    show l_laws_eqIntS_0_step N _ f1 _ f2 _ _ k0 k1 = _
    unfold l_laws_eqIntS_0_step
    rw [decide_eq_false (by simp [ints]; omega)]
  | succ d ih =>
    intro n i hi hn
    obtain ⟨n, rfl⟩ : ∃ m, n = m + 1 := ⟨n - 1, by omega⟩
    have hlt : i < xs.length := by omega
    show l_laws_eqIntS_0_step N _ f1 _ f2 _ _ k0 k1 = _
    unfold l_laws_eqIntS_0_step
    rw [decide_eq_true (by simp [ints]; omega)]
    simp only [if_pos (show (0 : Int) ≤ (i : Int) by omega), Int.toNat_natCast, ints, nth_map0, nth_get hlt, Option.map_some, must, asInt, if_true, bne_self_eq_false]
    rw [wrap_i64 (by omega) (by omega)]
    exact ih n (i + 1) (by omega) (by omega)

theorem t_eqIntS {xs : List Int} (hx : xs.length ≤ 1048576) (hN : 1048576 < N) (f1 f2 : Fl) (k : Bool → Option R) : g_laws_eqIntS N (ints xs) f1 (ints xs) f2 k = k true := by
  rw [g_laws_eqIntS_eq]
  unfold gb_laws_eqIntS
  rw [bne_self_eq_false]
  exact eqIntS_l N xs f1 f2 _ _ hx xs.length N 0 (by omega) (by omega)

theorem t_eqEvent (a b c : Int) (k : Bool → Option R) : g_laws_eqEvent N a b c a b c k = k true := by
  rw [g_laws_eqEvent_eq]
  unfold gb_laws_eqEvent
  simp only [bne_self_eq_false]

theorem eqEventS_l (xs : List Ev) (f1 f2 : Fl) (k0 k1 : Unit → Option R) (hx : xs.length ≤ 1048576) : ∀ (d n i : Nat), i + d = xs.length → d < n →
    l_laws_eqEventS_0 N (evs xs) f1 (evs xs) f2 k0 k1 n (i : Int) = k1 () := by
  intro d
  induction d with
  | zero =>
    intro n i hi hn
    obtain ⟨n, rfl⟩ : ∃ m, n = m + 1 := ⟨n - 1, by omega⟩
    show l_laws_eqEventS_0_step N _ f1 _ f2 _ _ k0 k1 = _
    unfold l_laws_eqEventS_0_step
    rw [decide_eq_false (by simp [evs]; omega)]
  | succ d ih =>
    intro n i hi hn
    obtain ⟨n, rfl⟩ : ∃ m, n = m + 1 := ⟨n - 1, by omega⟩
    have hlt : i < xs.length := by omega
    show l_laws_eqEventS_0_step N _ f1 _ f2 _ _ k0 k1 = _
    unfold l_laws_eqEventS_0_step
    rw [decide_eq_true (by simp [evs]; omega)]
    simp only [if_pos (show (0 : Int) ≤ (i : Int) by omega), Int.toNat_natCast, evs, nth_map0, nth_get hlt, Option.map_some, must, un_evV, t_eqEvent, Bool.not_true]
    rw [wrap_i64 (by omega) (by omega)]
    exact ih n (i + 1) (by omega) (by omega)

theorem t_eqEventS {xs : List Ev} (hx : xs.length ≤ 1048576) (hN : 1048576 < N) (f1 f2 : Fl) (k : Bool → Option R) : g_laws_eqEventS N (evs xs) f1 (evs xs) f2 k = k true := by
  rw [g_laws_eqEventS_eq]
  unfold gb_laws_eqEventS
  rw [bne_self_eq_false]
  exact eqEventS_l N xs f1 f2 _ _ hx xs.length N 0 (by omega) (by omega)

end Go.VM.VL
