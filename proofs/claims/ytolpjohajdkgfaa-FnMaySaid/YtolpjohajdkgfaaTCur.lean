/- The cursor of choices: whatever the bytes are, it goes on, and what it picks lies where it should. -/
import Derived.Test.YtolpjohajdkgfaaTLib
import Derived.Test.YtolpjohajdkgfaaVmZc
import Derived.Test.YtolpjohajdkgfaaVLMay
set_option linter.unusedSimpArgs false
set_option linter.unusedVariables false
namespace Go.VM.VL
open Go.Proofs

/-- Bytes, as values. -/
def IsBytes (e : List V) : Prop := ∀ i v, nth e i = some v → ∃ n : Int, v = .int .u8 n ∧ 0 ≤ n ∧ n < 256
theorem isBytes_of {xs : List Int} (h : ∀ x ∈ xs, (Lit.int .u8 x).wf = true) : IsBytes (xs.map (V.int .u8)) := by
  intro i v hv
  rw [nth_eq, List.getElem?_map] at hv
  cases hx : xs[i]? with
  | none => rw [hx] at hv; cases hv
  | some x =>
    rw [hx] at hv
    have := wf_u8 (h x (List.mem_of_getElem? hx))
    exact ⟨x, (Option.some.inj hv).symm, this.1, this.2⟩
def curMax : Int := 4611686018427387904

theorem nth_some {α : Type} {l : List α} {i : Nat} (h : i < l.length) : ∃ a, nth l i = some a := ⟨l[i], by rw [nth_eq, List.getElem?_eq_getElem h]⟩

theorem t_next (N : Nat) {e : List V} (he : IsBytes e) (f : Fl) {at_ : Int} (seed : Int) (h0 : 0 ≤ at_) (h1 : at_ < curMax) :
    ∃ v seed' : Int, 0 ≤ v ∧ v < 256 ∧ ∀ (R : Type) (k : Int → List V → Fl → Int → Int → Option R), g_spec_l1Cur_next N e f at_ seed k = k v e f (at_ + 1) seed' := by
  unfold curMax at h1
  have hw : IntKind.i64.wrap (at_ + 1) = at_ + 1 := wrap_i64 (by omega) (by omega)
  have hb : ∀ y : Int, ∃ v : Int, 0 ≤ v ∧ v < 256 ∧ IntKind.i64.wrap (IntKind.u64.wrap (BitVec.ofInt IntKind.u64.bits y &&& BitVec.ofInt IntKind.u64.bits 255).toNat) = v := by
    intro y
    have hle : (BitVec.ofInt IntKind.u64.bits y &&& BitVec.ofInt IntKind.u64.bits 255).toNat ≤ 255 := by
      rw [BitVec.toNat_and]; exact Nat.and_le_right
    refine ⟨_, ?_, ?_, rfl⟩
    · rw [wrap_u64 (by omega) (by omega), wrap_i64 (by omega) (by omega)]; omega
    · rw [wrap_u64 (by omega) (by omega), wrap_i64 (by omega) (by omega)]; omega
  by_cases hlt : at_ < (e.length : Int)
  · obtain ⟨u, hu⟩ := nth_some (l := e) (i := at_.toNat) (by omega)
    obtain ⟨n, rfl, hn0, hn1⟩ := he _ _ hu
    have hn : IntKind.i64.wrap n = n := wrap_i64 (by omega) (by omega)
    refine ⟨n, IntKind.u64.wrap (IntKind.u64.wrap (IntKind.u64.wrap (seed * 6364136223846793005) + IntKind.u64.wrap (IntKind.i64.wrap n)) + 1442695040888963407), hn0, hn1, fun R k => ?_⟩
    rw [g_spec_l1Cur_next_eq]
    unfold gb_spec_l1Cur_next
    rw [decide_eq_true hlt]
    simp only [if_pos h0, hu, must, asInt, if_true, hw]
    rw [decide_eq_true (by omega)]
    simp only [hn]
  · rcases Classical.em (at_ + 1 ≤ (e.length : Int)) with h2 | h2
    · omega
    · obtain ⟨v, hv0, hv1, hv⟩ := hb (Int.fdiv (IntKind.u64.wrap (IntKind.u64.wrap (IntKind.u64.wrap (seed * 6364136223846793005) + 0) + 1442695040888963407)) (2 ^ (min (40 : Int).toNat 64)))
      refine ⟨v, IntKind.u64.wrap (IntKind.u64.wrap (IntKind.u64.wrap (seed * 6364136223846793005) + 0) + 1442695040888963407), hv0, hv1, fun R k => ?_⟩
      rw [g_spec_l1Cur_next_eq]
      unfold gb_spec_l1Cur_next
      rw [decide_eq_false hlt]
      simp only [hw]
      rw [decide_eq_false h2]
      simp only [hv]

/-- What is drawn from a cursor: some value that meets p, behind c draws at most. -/
theorem t_pick (N : Nat) {e : List V} (he : IsBytes e) (f : Fl) {at_ : Int} (seed n : Int) (h0 : 0 ≤ at_) (h1 : at_ + 2 ≤ curMax) :
    ∃ v at' seed' : Int, 0 ≤ v ∧ (v = 0 ∨ v < n) ∧ at_ ≤ at' ∧ at' ≤ at_ + 2 ∧ ∀ (R : Type) (k : Int → List V → Fl → Int → Int → Option R), g_spec_l1Cur_pick N n e f at_ seed k = k v e f at' seed' := by
  by_cases hn : n ≤ 1
  · refine ⟨0, at_, seed, by omega, .inl rfl, by omega, by omega, fun R k => ?_⟩
    rw [g_spec_l1Cur_pick_eq]
    unfold gb_spec_l1Cur_pick
    rw [decide_eq_true hn]
  · obtain ⟨v1, s1, a1, a2, a3⟩ := t_next N he f seed h0 (by unfold curMax at *; omega)
    obtain ⟨v2, s2, b1, b2, b3⟩ := t_next N he f s1 (at_ := at_ + 1) (by omega) (by unfold curMax at *; omega)
    have hn0 : ¬ n = 0 := by omega
    by_cases h200 : n > 200
    · refine ⟨Int.tmod (IntKind.i64.wrap (IntKind.i64.wrap (v1 * 256) + v2)) n, at_ + 1 + 1, s2, ?_, .inr ?_, by omega, by omega, fun R k => ?_⟩
      · rw [wrap_i64 (x := v1 * 256) (by omega) (by omega), wrap_i64 (by omega) (by omega)]
        exact Int.tmod_nonneg _ (by omega)
      · exact Int.tmod_lt_of_pos _ (by omega)
      · rw [g_spec_l1Cur_pick_eq]
        unfold gb_spec_l1Cur_pick
        rw [decide_eq_false hn]
        simp only [a3]
        rw [decide_eq_true h200]
        simp only [b3, if_neg hn0]
    · refine ⟨Int.tmod v1 n, at_ + 1, s1, Int.tmod_nonneg _ (by omega), .inr (Int.tmod_lt_of_pos _ (by omega)), by omega, by omega, fun R k => ?_⟩
      rw [g_spec_l1Cur_pick_eq]
      unfold gb_spec_l1Cur_pick
      rw [decide_eq_false hn]
      simp only [a3]
      rw [decide_eq_false h200]
      simp only [if_neg hn0]

theorem t_one (N : Nat) {e : List V} (he : IsBytes e) (f : Fl) {at_ : Int} (seed n : Int) (h0 : 0 ≤ at_) (h1 : at_ + 2 ≤ curMax) :
    ∃ (v : Bool) (at' seed' : Int), at_ ≤ at' ∧ at' ≤ at_ + 2 ∧ ∀ (R : Type) (k : Bool → List V → Fl → Int → Int → Option R), g_spec_l1Cur_one N n e f at_ seed k = k v e f at' seed' := by
  obtain ⟨v, a, s, q1, q2, q3, q4, q5⟩ := t_pick N he f seed n h0 h1
  refine ⟨v == 0, a, s, q3, q4, fun R k => ?_⟩
  rw [g_spec_l1Cur_one_eq]
  unfold gb_spec_l1Cur_one
  rw [q5]

/-- One of some numbers, of which there is one at least. -/
theorem t_among (N : Nat) {e : List V} (he : IsBytes e) (f : Fl) {at_ : Int} (seed : Int) (xs : List Int) (g : Fl) (hx : xs ≠ []) (h0 : 0 ≤ at_) (h1 : at_ + 2 ≤ curMax) :
    ∃ v at' seed' : Int, v ∈ xs ∧ at_ ≤ at' ∧ at' ≤ at_ + 2 ∧ ∀ (R : Type) (k : Int → List V → Fl → Int → Int → Option R), g_spec_l1Cur_among N (xs.map (V.int .i64)) g e f at_ seed k = k v e f at' seed' := by
  obtain ⟨v, a, s, q1, q2, q3, q4, q5⟩ := t_pick N he f seed ((xs.map (V.int .i64)).length : Int) h0 h1
  have hpos : 0 < xs.length := List.length_pos_iff.2 hx
  have hlt : v.toNat < xs.length := by
    rw [List.length_map] at q2
    omega
  refine ⟨xs[v.toNat], a, s, List.getElem_mem _, q3, q4, fun R k => ?_⟩
  rw [g_spec_l1Cur_among_eq]
  unfold gb_spec_l1Cur_among
  rw [q5]
  have hn : nth (xs.map (V.int .i64)) v.toNat = some (.int .i64 xs[v.toNat]) := by
    rw [nth_eq, List.getElem?_map, List.getElem?_eq_getElem hlt]; rfl
  simp only [if_pos q1, hn, must, asInt, if_true]

theorem t_mode (N : Nat) {e : List V} (he : IsBytes e) (f : Fl) {at_ : Int} (seed : Int) (h0 : 0 ≤ at_) (h1 : at_ + 5 ≤ curMax) :
    ∃ v at' seed' : Int, 0 ≤ v ∧ v < 512 ∧ at_ ≤ at' ∧ at' ≤ at_ + 5 ∧ ∀ (R : Type) (k : Int → List V → Fl → Int → Int → Option R), g_spec_l1Cur_mode N e f at_ seed k = k v e f at' seed' := by
  unfold curMax at *
  obtain ⟨b, a1, s1, p1, p2, p3⟩ := t_one N he f seed 2 h0 (by unfold curMax; omega)
  cases b with
  | true =>
    obtain ⟨v, a2, s2, q1, q2, q3, q4⟩ := t_among N he f s1 [493, 420, 448, 511, 0, 365, 73] .sh (by simp) (at_ := a1) (by omega) (by unfold curMax; omega)
    have hv : 0 ≤ v ∧ v < 512 := by
      simp only [List.mem_cons, List.mem_nil_iff, or_false] at q1
      omega
    refine ⟨v, a2, s2, hv.1, hv.2, by omega, by omega, fun R k => ?_⟩
    rw [g_spec_l1Cur_mode_eq]
    unfold gb_spec_l1Cur_mode
    rw [p3]
    exact q4 R k
  | false =>
    obtain ⟨v, s2, q1, q2, q3⟩ := t_next N he f s1 (at_ := a1) (by omega) (by unfold curMax; omega)
    obtain ⟨u, a3, s3, r1, r2, r3, r4, r5⟩ := t_pick N he f s2 2 (at_ := a1 + 1) (by omega) (by unfold curMax; omega)
    refine ⟨Int.tmod (IntKind.i64.wrap (IntKind.i64.wrap (v * 2) + u)) 512, a3, s3, ?_, ?_, by omega, by omega, fun R k => ?_⟩
    rotate_left 2
    · rw [g_spec_l1Cur_mode_eq]
      unfold gb_spec_l1Cur_mode
      rw [p3]
      simp only
      rw [q3, r5]
    · rw [wrap_i64 (x := v * 2) (by omega) (by omega), wrap_i64 (by omega) (by omega)]
      exact Int.tmod_nonneg _ (by omega)
    · exact Int.tmod_lt_of_pos _ (by omega)

theorem t_cred (N : Nat) {e : List V} (he : IsBytes e) (f : Fl) {at_ : Int} (seed : Int) (h0 : 0 ≤ at_) (h1 : at_ + 8 ≤ curMax) :
    ∃ u v at' seed' y1 y2 y3 y4 : Int, at_ ≤ at' ∧ at' ≤ at_ + 8 ∧ ∀ (R : Type) (k : Int → Int → List V → Fl → Int → Int → Int → Int → Int → Int → Option R), g_spec_l1Cur_cred N e f at_ seed k = k u v e f at' seed' y1 y2 y3 y4 := by
  unfold curMax at *
  obtain ⟨u, a1, s1, _, p1, p2, p3⟩ := t_among N he f seed [0, 1, 2, 1] .sh (by simp) h0 (by unfold curMax; omega)
  obtain ⟨v, a2, s2, _, q1, q2, q3⟩ := t_among N he f s1 [0, 1, 2] .sh (by simp) (at_ := a1) (by omega) (by unfold curMax; omega)
  obtain ⟨b, a3, s3, r1, r2, r3⟩ := t_one N he f s2 40 (at_ := a2) (by omega) (by unfold curMax; omega)
  obtain ⟨w, a4, s4, _, t1, t2, t3⟩ := t_among N he f s3 [-1, 99, 100] .sh (by simp) (at_ := a3) (by omega) (by unfold curMax; omega)
  have go : ∀ (R : Type) (k : Int → Int → List V → Fl → Int → Int → Int → Int → Int → Int → Option R), g_spec_l1Cur_cred N e f at_ seed k = match b with
      | true => k w v e f a4 s4 w v w v
      | false => k u v e f a3 s3 u v u v := fun R k => by
    rw [g_spec_l1Cur_cred_eq]
    unfold gb_spec_l1Cur_cred
    refine (p3 R _).trans ((q3 R _).trans ((r3 R _).trans ?_))
    cases b with
    | true => exact t3 R _
    | false => rfl
  cases b with
  | true => exact ⟨w, v, a4, s4, w, v, w, v, by omega, by omega, go⟩
  | false => exact ⟨u, v, a3, s3, u, v, u, v, by omega, by omega, go⟩

end Go.VM.VL
