/- The law FnExactIsOrderly, told plainly: what the program's functions compute. -/
import Derived.Test.YtolpjohajdkgfaaTExact
set_option linter.unusedSimpArgs false
set_option linter.unusedVariables false
namespace Go.VM.VL
open Go.Proofs

def inR (a b c : Int) : Bool := decide (b ≤ a) && decide (a ≤ c)
theorem inR_iff {a b c : Int} : inR a b c = true ↔ b ≤ a ∧ a ≤ c := by simp [inR]

variable {R : Type} (N : Nat)
theorem t_impl_within (a b c : Int) (k : Bool → Option R) : g_impl_within N a b c k = k (inR a b c) := by
  rw [g_impl_within_eq]
  unfold gb_impl_within inR
  by_cases h : b ≤ a
  · rw [decide_eq_true (show a ≥ b from h)]; simp
  · rw [decide_eq_false (show ¬ a ≥ b from h)]; simp
theorem t_spec_l1In (a b c : Int) (k : Bool → Option R) : g_spec_l1In N a b c k = k (inR a b c) := by
  rw [g_spec_l1In_eq]
  unfold gb_spec_l1In inR
  by_cases h : b ≤ a
  · rw [decide_eq_true (show a ≥ b from h)]; simp
  · rw [decide_eq_false (show ¬ a ≥ b from h)]; simp

/-! ### forests -/
def at0 (l : List Int) (i : Nat) : Int := l.getD i 0
theorem at0_get {l : List Int} {i : Nat} (h : i < l.length) : at0 l i = l[i] := by simp [at0, List.getD_eq_getElem?_getD, List.getElem?_eq_getElem h]
theorem nth_ints {l : List Int} {i : Nat} (h : i < l.length) : nth (ints l) i = some (.int .i64 (at0 l i)) := by
  rw [ints, nth_map0, nth_get h, at0_get h]; rfl

def goodAt (l : List Int) (i : Nat) : Bool := inR (at0 l i) (-1) ((i : Int) - 1)
def goodB (l : List Int) : Bool := (List.range' 0 l.length).all (goodAt l) && decide (l.length ≤ 40)

theorem impl_forest_l (l : List Int) (f1 f2 : Fl) (k0 k1 : Unit → Option R) (hx : l.length ≤ 1048576) : ∀ (d n i : Nat), i + d = l.length → d < n →
    l_impl_GoodForest_0 N (ints l) f1 (ints l) f2 (l.length : Int) k0 k1 n (i : Int) = if (List.range' i d).all (goodAt l) then k1 () else k0 () := by
  intro d
  induction d with
  | zero =>
    intro n i hi hn
    obtain ⟨n, rfl⟩ : ∃ m, n = m + 1 := ⟨n - 1, by omega⟩
    show l_impl_GoodForest_0_step N _ f1 _ f2 _ _ _ k0 k1 = _
    unfold l_impl_GoodForest_0_step
    rw [decide_eq_false (by omega)]
    rfl
  | succ d ih =>
    intro n i hi hn
    obtain ⟨n, rfl⟩ : ∃ m, n = m + 1 := ⟨n - 1, by omega⟩
    have hlt : i < l.length := by omega
    show l_impl_GoodForest_0_step N _ f1 _ f2 _ _ _ k0 k1 = _
    unfold l_impl_GoodForest_0_step
    rw [decide_eq_true (by omega)]
    simp only [if_pos (show (0 : Int) ≤ (i : Int) by omega), Int.toNat_natCast, nth_ints hlt, must, asInt, if_true, t_impl_within]
    rw [wrap_i64 (by omega) (by omega), wrap_i64 (by omega) (by omega), List.range'_succ, List.all_cons]
    show (match !goodAt l i with | true => k0 () | false => l_impl_GoodForest_0 N (ints l) f1 (ints l) f2 (l.length : Int) k0 k1 n ((i : Int) + 1)) = _
    cases goodAt l i with
    | false => rfl
    | true => exact ih n (i + 1) (by omega) (by omega)

theorem spec_forest_l (l : List Int) (f1 f2 : Fl) (k0 k1 : Unit → Option R) (hx : l.length ≤ 1048576) : ∀ (d n i : Nat), i + d = l.length → d < n →
    l_spec_l13Forest_0 N (ints l) f1 (ints l) f2 (l.length : Int) k0 k1 n (i : Int) = if (List.range' i d).all (goodAt l) then k1 () else k0 () := by
  intro d
  induction d with
  | zero =>
    intro n i hi hn
    obtain ⟨n, rfl⟩ : ∃ m, n = m + 1 := ⟨n - 1, by omega⟩
    show l_spec_l13Forest_0_step N _ f1 _ f2 _ _ _ k0 k1 = _
    unfold l_spec_l13Forest_0_step
    rw [decide_eq_false (by omega)]
    rfl
  | succ d ih =>
    intro n i hi hn
    obtain ⟨n, rfl⟩ : ∃ m, n = m + 1 := ⟨n - 1, by omega⟩
    have hlt : i < l.length := by omega
    show l_spec_l13Forest_0_step N _ f1 _ f2 _ _ _ k0 k1 = _
    unfold l_spec_l13Forest_0_step
    rw [decide_eq_true (by omega)]
    simp only [if_pos (show (0 : Int) ≤ (i : Int) by omega), Int.toNat_natCast, nth_ints hlt, must, asInt, if_true, t_spec_l1In]
    rw [wrap_i64 (by omega) (by omega), wrap_i64 (by omega) (by omega), List.range'_succ, List.all_cons]
    show (match !goodAt l i with | true => k0 () | false => l_spec_l13Forest_0 N (ints l) f1 (ints l) f2 (l.length : Int) k0 k1 n ((i : Int) + 1)) = _
    cases goodAt l i with
    | false => rfl
    | true => exact ih n (i + 1) (by omega) (by omega)

theorem len_ints (l : List Int) : (ints l).length = l.length := by simp [ints]
theorem len_evs (l : List Ev) : (evs l).length = l.length := by simp [evs]

theorem t_impl_GoodForest {l : List Int} (hx : l.length ≤ 1048576) (hN : 1048576 < N) (f : Fl) (k : Bool → Option R) : g_impl_GoodForest N (ints l) f k = k (goodB l) := by
  rw [g_impl_GoodForest_eq]
  unfold gb_impl_GoodForest
  rw [len_ints]
  refine (impl_forest_l N l f _ _ _ hx l.length N 0 (by omega) (by omega)).trans ?_
  unfold goodB
  split
  · rename_i h; rw [h, Bool.true_and]; congr 1; simp; omega
  · rename_i h; rw [Bool.eq_false_iff.2 h, Bool.false_and]
theorem t_spec_l13Forest {l : List Int} (hx : l.length ≤ 1048576) (hN : 1048576 < N) (f : Fl) (k : Bool → Option R) : g_spec_l13Forest N (ints l) f k = k (goodB l) := by
  rw [g_spec_l13Forest_eq]
  unfold gb_spec_l13Forest
  rw [len_ints]
  refine (spec_forest_l N l f _ _ _ hx l.length N 0 (by omega) (by omega)).trans ?_
  unfold goodB
  split
  · rename_i h; rw [h, Bool.true_and]; congr 1; simp; omega
  · rename_i h; rw [Bool.eq_false_iff.2 h, Bool.false_and]

theorem goodB_at {l : List Int} (h : goodB l = true) : l.length ≤ 40 ∧ ∀ i, i < l.length → -1 ≤ at0 l i ∧ at0 l i ≤ (i : Int) - 1 := by
  unfold goodB at h
  simp only [Bool.and_eq_true, decide_eq_true_eq] at h
  refine ⟨h.2, fun i hi => ?_⟩
  have := List.all_eq_true.1 h.1 i (by rw [List.mem_range']; exact ⟨i, hi, by omega⟩)
  exact inR_iff.1 this

/-! ### where an event stands -/
def scan (kd t : Int) : List Ev → Nat → Int → Int
  | [], _, a => a
  | e :: l, i, a => if e.1 = kd ∧ e.2.1 = t then (if 0 ≤ a then -1 else scan kd t l (i + 1) i) else scan kd t l (i + 1) a

theorem at_l (l : List Ev) (kd t : Int) (f : Fl) (k : Int → Option R) (hx : l.length ≤ 1048576) : ∀ (d n i : Nat) (a : Int), i + d = l.length → d < n →
    l_spec_l13At_0 N kd t (evs l) f (l.length : Int) (fun _ => k (-1)) (fun x => k x) n a (i : Int) = k (scan kd t (l.drop i) i a) := by
  intro d
  induction d with
  | zero =>
    intro n i a hi hn
    obtain ⟨n, rfl⟩ : ∃ m, n = m + 1 := ⟨n - 1, by omega⟩
    show l_spec_l13At_0_step N _ _ _ f _ _ _ _ _ _ = _
    unfold l_spec_l13At_0_step
    rw [decide_eq_false (by omega), List.drop_eq_nil_of_le (by omega)]
    rfl
  | succ d ih =>
    intro n i a hi hn
    obtain ⟨n, rfl⟩ : ∃ m, n = m + 1 := ⟨n - 1, by omega⟩
    have hlt : i < l.length := by omega
    show l_spec_l13At_0_step N _ _ _ f _ _ _ _ _ _ = _
    unfold l_spec_l13At_0_step
    rw [decide_eq_true (by omega), List.drop_eq_getElem_cons hlt]
    simp only [if_pos (show (0 : Int) ≤ (i : Int) by omega), Int.toNat_natCast, evs, nth_map0, nth_get hlt, Option.map_some, must, un_evV, scan]
    rw [wrap_i64 (by omega) (by omega)]
    have ih' := fun a => ih n (i + 1) a (by omega) (by omega)
    simp only [evs] at ih'
    by_cases h1 : l[i].1 = kd
    · rw [beq_iff_eq.2 h1]
      by_cases h2 : l[i].2.1 = t
      · rw [beq_iff_eq.2 h2, if_pos ⟨h1, h2⟩]
        by_cases h3 : 0 ≤ a
        · simp only [decide_eq_true (show a ≥ 0 from h3), if_pos h3]
        · simp only [decide_eq_false (show ¬ a ≥ 0 from h3), if_neg h3]
          exact ih' _
      · rw [beq_false_of_ne h2, if_neg (fun h => h2 h.2)]
        exact ih' a
    · rw [beq_false_of_ne h1, if_neg (fun h => h1 h.1)]
      exact ih' a

def atI (l : List Ev) (kd t : Int) : Int := scan kd t l 0 (-1)
theorem t_l13At {l : List Ev} (hx : l.length ≤ 1048576) (hN : 1048576 < N) (f : Fl) (kd t : Int) (k : Int → Option R) : g_spec_l13At N (evs l) f kd t k = k (atI l kd t) := by
  rw [g_spec_l13At_eq]
  unfold gb_spec_l13At
  rw [len_evs]
  have := at_l N l kd t f.noOwn k hx l.length N 0 (-1) (by omega) (by omega)
  rw [List.drop_zero] at this
  exact this

/-! ### the reference -/
def condB (ups : List Int) (l : List Ev) (i : Nat) : Bool :=
  !decide (atI l 1 i < 0) && !decide (atI l 2 i < atI l 1 i) && (!decide (at0 ups i ≥ 0) || (!decide (atI l 1 (at0 ups i) > atI l 1 i) && !decide (atI l 2 (at0 ups i) < atI l 2 i)))

theorem ite_and {α : Type} (a b : Bool) (x y : α) : (if (a && b) = true then x else y) = match a with | true => (if b = true then x else y) | false => y := by cases a <;> rfl

theorem spec_l (ups : List Int) (l : List Ev) (f1 f2 f3 : Fl) (k0 k1 : Unit → Option R) (hu : ups.length ≤ 1048576) (hx : l.length ≤ 1048576) (hN : 1048576 < N) : ∀ (d n i : Nat), i + d = ups.length → d < n →
    l_spec_IsOrderly_0 N (ints ups) f1 (evs l) f2 (ints ups) f3 (ups.length : Int) k0 k1 n (i : Int) = if (List.range' i d).all (condB ups l) then k1 () else k0 () := by
  intro d
  induction d with
  | zero =>
    intro n i hi hn
    obtain ⟨n, rfl⟩ : ∃ m, n = m + 1 := ⟨n - 1, by omega⟩
    show l_spec_IsOrderly_0_step N _ f1 _ f2 _ f3 _ _ _ k0 k1 = _
    unfold l_spec_IsOrderly_0_step
    rw [decide_eq_false (by omega)]
    rfl
  | succ d ih =>
    intro n i hi hn
    obtain ⟨n, rfl⟩ : ∃ m, n = m + 1 := ⟨n - 1, by omega⟩
    have hlt : i < ups.length := by omega
    show l_spec_IsOrderly_0_step N _ f1 _ f2 _ f3 _ _ _ k0 k1 = _
    unfold l_spec_IsOrderly_0_step
    rw [decide_eq_true (by omega)]
    simp only [if_pos (show (0 : Int) ≤ (i : Int) by omega), Int.toNat_natCast, nth_ints hlt, must, asInt, if_true, t_l13At N hx hN]
    rw [wrap_i64 (by omega) (by omega), List.range'_succ, List.all_cons]
    have ih' := ih n (i + 1) (by omega) (by omega)
    rw [ite_and]
    simp only [condB]
    cases decide (atI l 1 (i : Int) < 0) with
    | true => rfl
    | false =>
      cases decide (atI l 2 (i : Int) < atI l 1 (i : Int)) with
      | true => rfl
      | false =>
        cases decide (at0 ups i ≥ 0) with
        | false => exact ih'
        | true =>
          cases decide (atI l 1 (at0 ups i) > atI l 1 (i : Int)) with
          | true => rfl
          | false =>
            cases decide (atI l 2 (at0 ups i) < atI l 2 (i : Int)) with
            | true => rfl
            | false => exact ih'

def specB (ups : List Int) (l : List Ev) : Bool := (List.range' 0 ups.length).all (condB ups l) && decide (l.length = 2 * ups.length)

theorem t_spec_IsOrderly {ups : List Int} {l : List Ev} (hu : ups.length ≤ 1048576) (hx : l.length ≤ 1048576) (hN : 1048576 < N) (f1 f2 : Fl) (k : Bool → Bool → Option R) :
    g_spec_IsOrderly N (ints ups) f1 (evs l) f2 k = k (goodB ups && specB ups l) (goodB ups) := by
  rw [g_spec_IsOrderly_eq]
  unfold gb_spec_IsOrderly
  rw [t_spec_l13Forest N hu hN]
  cases hg : goodB ups with
  | false => rfl
  | true =>
    simp only [Bool.not_true]
    rw [len_ints, len_evs]
    refine (spec_l N ups l f1 f2 _ _ _ hu hx hN ups.length N 0 (by omega) (by omega)).trans ?_
    unfold specB
    split
    · rename_i h
      rw [h, Bool.true_and, Bool.true_and, wrap_i64 (by omega) (by omega)]
      congr 1
      by_cases he : l.length = 2 * ups.length
      · rw [decide_eq_true he]; simp; omega
      · rw [decide_eq_false he]; simp; omega
    · rename_i h; rw [Bool.eq_false_iff.2 h]; rfl

/-! ### the program's -/
def kids (ups : List Int) (t : Int) (i d : Nat) : List Int := ((List.range' i d).filter fun j => at0 ups j == t).map fun (j : Nat) => (j : Int)

theorem below_l (ups : List Int) (t : Int) (f : Fl) (k : List V → Option R) (hu : ups.length ≤ 1048576) : ∀ (d n i : Nat) (js : List Int), i + d = ups.length → d < n → js.length ≤ i →
    l_impl_belowIn_0 N t (ints ups) f (ups.length : Int) k n (ints js) (i : Int) = k (ints (js ++ kids ups t i d)) := by
  intro d
  induction d with
  | zero =>
    intro n i js hi hn hj
    obtain ⟨n, rfl⟩ : ∃ m, n = m + 1 := ⟨n - 1, by omega⟩
    show l_impl_belowIn_0_step N _ _ f _ _ _ _ _ = _
    unfold l_impl_belowIn_0_step
    rw [decide_eq_false (by omega)]
    simp [kids]
  | succ d ih =>
    intro n i js hi hn hj
    obtain ⟨n, rfl⟩ : ∃ m, n = m + 1 := ⟨n - 1, by omega⟩
    have hlt : i < ups.length := by omega
    show l_impl_belowIn_0_step N _ _ f _ _ _ _ _ = _
    unfold l_impl_belowIn_0_step
    rw [decide_eq_true (by omega)]
    simp only [if_pos (show (0 : Int) ≤ (i : Int) by omega), Int.toNat_natCast, nth_ints hlt, must, asInt, if_true]
    rw [wrap_i64 (by omega) (by omega)]
    by_cases h : at0 ups i = t
    · rw [beq_iff_eq.2 h]
      simp only
      rw [len_ints, if_pos (by omega)]
      have e : ints js ++ [V.int .i64 (i : Int)] = ints (js ++ [(i : Int)]) := by simp [ints]
      rw [e]
      refine (ih n (i + 1) (js ++ [(i : Int)]) (by omega) (by omega) (by simp; omega)).trans ?_
      simp [kids, List.range'_succ, h]
    · rw [beq_false_of_ne h]
      simp only
      refine (ih n (i + 1) js (by omega) (by omega) (by omega)).trans ?_
      simp [kids, List.range'_succ, h]

theorem t_belowIn {ups : List Int} (hu : ups.length ≤ 1048576) (hN : 1048576 < N) (f : Fl) (t : Int) (k : List V → Option R) : g_impl_belowIn N (ints ups) f t k = k (ints (kids ups t 0 ups.length)) := by
  rw [g_impl_belowIn_eq]
  unfold gb_impl_belowIn
  rw [len_ints]
  exact below_l N ups t f.noOwn k hu ups.length N 0 [] (by omega) (by omega) (by simp)

def atB (l : List Bool) (i : Nat) : Bool := l.getD i false
theorem nth_bools {l : List Bool} {i : Nat} (h : i < l.length) : nth (bools l) i = some (.bool (atB l i)) := by
  rw [bools, nth_map0, nth_get h, atB, List.getD_eq_getElem?_getD, List.getElem?_eq_getElem h]; rfl
theorem len_bools (l : List Bool) : (bools l).length = l.length := by simp [bools]

theorem kids_l (e1 : List V) (f1 : Fl) (e3 : List V) (f4 : Fl) (k5 m : Nat) (e7 : List V) (f8 : Fl) (x9 x10 : Int) (js : List Int) (e14 : List V) (post : List Bool) (a b c : Int) (k0 k1 : Unit → Option R)
    (hj : js.length ≤ 1048576) (hp : post.length = m) (hjs : ∀ j ∈ js, 0 ≤ j ∧ j < (m : Int)) : ∀ (d n i : Nat), i + d = js.length → d < n →
    l_impl_IsOrderly_0 N e1 f1 e3 f4 k5 m e7 f8 x9 x10 (ints js) (js.length : Int) e14 (bools post) a b c k0 k1 n (i : Int) = if (js.drop i).all (fun j => atB post j.toNat) then k1 () else k0 () := by
  intro d
  induction d with
  | zero =>
    intro n i hi hn
    obtain ⟨n, rfl⟩ : ∃ m, n = m + 1 := ⟨n - 1, by omega⟩
    show l_impl_IsOrderly_0_step N _ _ _ _ _ _ _ _ _ _ _ _ _ _ _ _ _ _ _ k0 k1 = _
    unfold l_impl_IsOrderly_0_step
    rw [decide_eq_false (by omega), List.drop_eq_nil_of_le (by omega)]
    rfl
  | succ d ih =>
    intro n i hi hn
    obtain ⟨n, rfl⟩ : ∃ m, n = m + 1 := ⟨n - 1, by omega⟩
    have hlt : i < js.length := by omega
    have hr := hjs js[i] (List.getElem_mem hlt)
    show l_impl_IsOrderly_0_step N _ _ _ _ _ _ _ _ _ _ _ _ _ _ _ _ _ _ _ k0 k1 = _
    unfold l_impl_IsOrderly_0_step
    rw [decide_eq_true (by omega), List.drop_eq_getElem_cons hlt, List.all_cons]
    simp only [if_pos (show (0 : Int) ≤ (i : Int) by omega), Int.toNat_natCast, nth_ints hlt, at0_get hlt, must, asInt, if_true, if_pos hr, Nat.zero_add, nth_bools (show js[i].toNat < post.length by omega), V.cells, List.drop_zero, asCons, asBool]
    rw [wrap_i64 (by omega) (by omega)]
    cases atB post js[i].toNat with
    | false => rfl
    | true => exact ih n (i + 1) (by omega) (by omega)

/-- May this event come now? -/
def validB (ups : List Int) (pre post : List Bool) (e : Ev) : Bool :=
  inR e.2.1 0 ((ups.length : Int) - 1) &&
    ((decide (e.1 = 1) && (!atB pre e.2.1.toNat && (decide (at0 ups e.2.1.toNat < 0) || atB pre (at0 ups e.2.1.toNat).toNat))) ||
     (decide (e.1 = 2) && (atB pre e.2.1.toNat && (!atB post e.2.1.toNat && (kids ups e.2.1 0 ups.length).all fun j => atB post j.toNat))))

def runI (ups : List Int) : List Ev → List Bool → List Bool → Bool
  | [], _, _ => true
  | e :: l, pre, post => validB ups pre post e && runI ups l (if e.1 = 1 then setAt pre e.2.1.toNat true else pre) (if e.1 = 1 then post else setAt post e.2.1.toNat true)

theorem trim_bools (l : List Bool) : (bools l).map (trimV 2) = bools l := by
  simp only [bools, List.map_map]
  rfl

theorem kids_mem {ups : List Int} {t j : Int} (h : j ∈ kids ups t 0 ups.length) : 0 ≤ j ∧ j < (ups.length : Int) ∧ at0 ups j.toNat = t := by
  unfold kids at h
  obtain ⟨i, hi, rfl⟩ := List.mem_map.1 h
  obtain ⟨h1, h2⟩ := List.mem_filter.1 hi
  rw [List.mem_range'] at h1
  obtain ⟨m, h3, h4⟩ := h1
  refine ⟨by omega, by omega, ?_⟩
  rw [Int.toNat_natCast]
  exact beq_iff_eq.1 h2

theorem kids_of {ups : List Int} {t : Int} {i : Nat} (hi : i < ups.length) (h : at0 ups i = t) : (i : Int) ∈ kids ups t 0 ups.length := by
  unfold kids
  refine List.mem_map.2 ⟨i, List.mem_filter.2 ⟨?_, beq_iff_eq.2 h⟩, rfl⟩
  rw [List.mem_range']
  exact ⟨i, hi, by omega⟩

theorem kids_len (ups : List Int) (t : Int) : (kids ups t 0 ups.length).length ≤ ups.length := by
  unfold kids
  rw [List.length_map]
  refine Nat.le_trans (List.length_filter_le _ _) ?_
  simp

theorem impl_l (ups : List Int) (l : List Ev) (f1 f2 f3 : Fl) (e3 : List V) (r0 r1 : Option R) (hu : ups.length ≤ 40) (hg : ∀ i, i < ups.length → -1 ≤ at0 ups i ∧ at0 ups i ≤ (i : Int) - 1) (hx : l.length ≤ 1048576) (hN : 1048576 < N) :
    ∀ (d n i : Nat) (pre post : List Bool), i + d = l.length → d < n → pre.length = ups.length → post.length = ups.length →
    l_impl_IsOrderly_1 N (ints ups) f1 e3 f2 ups.length ups.length (evs l) f3 (l.length : Int) (fun _ _ => r0) (fun _ _ => r1) n (i : Int) (bools pre) (bools post) = if runI ups (l.drop i) pre post then r1 else r0 := by
  intro d
  induction d with
  | zero =>
    intro n i pre post hi hn hp hq
    obtain ⟨n, rfl⟩ : ∃ m, n = m + 1 := ⟨n - 1, by omega⟩
    show l_impl_IsOrderly_1_step N _ _ _ _ _ _ _ _ _ _ _ _ _ _ _ = _
    unfold l_impl_IsOrderly_1_step
    rw [decide_eq_false (by omega), List.drop_eq_nil_of_le (by omega)]
    rfl
  | succ d ih =>
    intro n i pre post hi hn hp hq
    obtain ⟨n, rfl⟩ : ∃ m, n = m + 1 := ⟨n - 1, by omega⟩
    have hlt : i < l.length := by omega
    show l_impl_IsOrderly_1_step N _ _ _ _ _ _ _ _ _ _ _ _ _ _ _ = _
    unfold l_impl_IsOrderly_1_step
    rw [decide_eq_true (by omega), List.drop_eq_getElem_cons hlt]
    generalize hev : l[i] = e
    rw [show runI ups (e :: l.drop (i + 1)) pre post = (validB ups pre post e && runI ups (l.drop (i + 1)) (if e.1 = 1 then setAt pre e.2.1.toNat true else pre) (if e.1 = 1 then post else setAt post e.2.1.toNat true)) from rfl, ite_and]
    have hnth : nth (evs l) i = some (evV e) := by rw [evs, nth_map0, nth_get hlt, hev]; rfl
    simp only [if_pos (show (0 : Int) ≤ (i : Int) by omega), Int.toNat_natCast, hnth, must, un_evV, t_impl_within, len_ints, Nat.zero_add, trim_bools, t_belowIn N (show ups.length ≤ 1048576 by omega) hN]
    rw [wrap_i64 (x := (i : Int) + 1) (by omega) (by omega), wrap_i64 (x := (ups.length : Int) - 1) (by omega) (by omega)]
    unfold validB
    cases hin : inR e.2.1 0 ((ups.length : Int) - 1) with
    | false => rfl
    | true =>
      obtain ⟨h1, h2⟩ := inR_iff.1 hin
      have ht : e.2.1.toNat < ups.length := by omega
      have hgt := hg _ ht
      have hc : (0 : Int) ≤ e.2.1 ∧ e.2.1 < (ups.length : Int) := by omega
      have hset : ∀ (q : List Bool), setAt (bools q) e.2.1.toNat (V.bool true) = bools (setAt q e.2.1.toNat true) := fun q => setAt_map (fun b => V.bool b) q _ true
      have hnp : nth (bools pre) e.2.1.toNat = some (.bool (atB pre e.2.1.toNat)) := nth_bools (by omega)
      have hnq : nth (bools post) e.2.1.toNat = some (.bool (atB post e.2.1.toNat)) := nth_bools (by omega)
      simp only [Bool.not_true, if_pos h1, nth_ints ht, must, asInt, if_true, if_pos hc, hnp, hnq, V.cells, List.drop_zero, asCons, asBool, putCells, Bool.true_and]
      have hk : ∀ (x10 : Int) (a b c : Int) (e14 : List V) (k0 k1 : Unit → Option R), l_impl_IsOrderly_0 N (ints ups) f1 e3 f2 ups.length ups.length (evs l) f3 (l.length : Int) x10 (ints (kids ups e.2.1 0 ups.length)) ((ints (kids ups e.2.1 0 ups.length)).length : Int) e14 (bools post) a b c k0 k1 N 0 =
          if (kids ups e.2.1 0 ups.length).all (fun j => atB post j.toNat) then k1 () else k0 () := by
        intro x10 a b c e14 k0 k1
        have hkl := kids_len ups e.2.1
        rw [len_ints]
        have := kids_l N (ints ups) f1 e3 f2 ups.length ups.length (evs l) f3 (l.length : Int) x10 (kids ups e.2.1 0 ups.length) e14 post a b c k0 k1 (by omega) hq (fun j hj => ⟨(kids_mem hj).1, (kids_mem hj).2.1⟩) (kids ups e.2.1 0 ups.length).length N 0 (by omega) (by omega)
        rw [List.drop_zero] at this
        exact this
      simp only [len_ints] at hk
      simp only [hk, hset, trim_bools]
      have ih1 := ih n (i + 1) (setAt pre e.2.1.toNat true) post (by omega) (by omega) (by rw [length_setAt]; exact hp) hq
      have ih2 := ih n (i + 1) pre (setAt post e.2.1.toNat true) (by omega) (by omega) hp (by rw [length_setAt]; exact hq)
      have e1 : (((i + 1 : Nat)) : Int) = (i : Int) + 1 := by omega
      rw [e1] at ih1 ih2
      rw [ih1, ih2]
      by_cases c1 : e.1 = 1
      · have c2 : ¬ e.1 = 2 := by omega
        rw [beq_iff_eq.2 c1, beq_false_of_ne c2, decide_eq_true c1, decide_eq_false c2]
        simp only [if_pos c1, Bool.true_and, Bool.false_and, Bool.or_false]
        cases hpt : atB pre e.2.1.toNat with
        | true => rfl
        | false =>
          simp only [Bool.not_false, Bool.true_and]
          by_cases c3 : at0 ups e.2.1.toNat < 0
          · rw [decide_eq_true c3]
            simp
          · rw [decide_eq_false c3]
            have hup : 0 ≤ at0 ups e.2.1.toNat ∧ at0 ups e.2.1.toNat < (ups.length : Int) := by omega
            simp only [if_pos hup, nth_bools (l := pre) (show (at0 ups e.2.1.toNat).toNat < pre.length by omega), V.cells, List.drop_zero, asCons, asBool, Bool.false_or]
            cases atB pre (at0 ups e.2.1.toNat).toNat with
            | true => simp
            | false => rfl
      · rw [beq_false_of_ne c1, decide_eq_false c1]
        simp only [if_neg c1, Bool.false_and, Bool.false_or]
        by_cases c2 : e.1 = 2
        · rw [beq_iff_eq.2 c2, decide_eq_true c2]
          simp only [Bool.true_and]
          cases atB pre e.2.1.toNat with
          | false => rfl
          | true =>
            cases atB post e.2.1.toNat with
            | true => rfl
            | false =>
              simp only [Bool.not_false, Bool.true_and]
              cases (kids ups e.2.1 0 ups.length).all (fun j => atB post j.toNat) with
              | true => simp
              | false => rfl
        · rw [beq_false_of_ne c2, decide_eq_false c2]
          rfl

def implB (ups : List Int) (l : List Ev) : Bool := runI ups l (List.replicate ups.length false) (List.replicate ups.length false) && decide (l.length = 2 * ups.length)

theorem t_impl_IsOrderly {ups : List Int} {l : List Ev} (hu : ups.length ≤ 1048576) (hx : l.length ≤ 1048576) (hN : 1048576 < N) (f1 f2 : Fl) (k : Bool → Bool → Option R) :
    g_impl_IsOrderly N (ints ups) f1 (evs l) f2 k = k (goodB ups && implB ups l) (goodB ups) := by
  rw [g_impl_IsOrderly_eq]
  unfold gb_impl_IsOrderly
  rw [t_impl_GoodForest N hu hN]
  cases hg : goodB ups with
  | false => rfl
  | true =>
    obtain ⟨h40, hg2⟩ := goodB_at hg
    simp only [Bool.not_true]
    have hcd : 0 ≤ (ups.length : Int) ∧ True ∧ (ups.length : Int) * 1 ≤ 140737488355328 := ⟨by omega, trivial, by omega⟩
    rw [len_ints, len_evs, if_pos hcd, if_pos hcd, Int.toNat_natCast]
    have e : List.replicate ups.length (V.bool false) = bools (List.replicate ups.length false) := by simp [bools]
    rw [e]
    refine (impl_l N ups l f1 f2 _ (evs l) _ _ h40 hg2 hx hN l.length N 0 (List.replicate ups.length false) (List.replicate ups.length false) (by omega) (by omega) List.length_replicate List.length_replicate).trans ?_
    rw [List.drop_zero]
    unfold implB
    split
    · rename_i h
      rw [h, Bool.true_and, Bool.true_and, wrap_i64 (x := 2 * (ups.length : Int)) (by omega) (by omega)]
      congr 1
      by_cases he : l.length = 2 * ups.length
      · rw [decide_eq_true he]; simp; omega
      · rw [decide_eq_false he]; simp; omega
    · rename_i h; rw [Bool.eq_false_iff.2 h]; rfl

end Go.VM.VL
