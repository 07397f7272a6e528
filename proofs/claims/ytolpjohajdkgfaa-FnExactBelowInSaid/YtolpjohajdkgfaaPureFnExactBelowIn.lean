/- For every list of numbers and every task the law FnExactBelowIn answers true: the program's BelowIn and the reference's answer alike, leave the list as it was, and share no memory. -/
import Derived.Test.YtolpjohajdkgfaaPFnExactBelowInx3
namespace Go.Proofs.Ytolpjohajdkgfaa.Pure
open Go.RowKit Go.Proofs.Ytolpjohajdkgfaa.PFnExactBelowIn Go.Proofs.YtolpjohajdkgfaaW.PrintWords Go.Proofs.YtolpjohajdkgfaaW.PrintLast

theorem bi_wrap (i n : Nat) (h : i < n) (hn : n ≤ 1048576) : wrap64 ((i : Int) + 1) = ((i + 1 : Nat) : Int) := by
  unfold wrap64; omega

theorem bi_rd (xs : List Int) (i : Nat) : rd xs (i : Int) = xs.getD i 0 := by simp [rd]

theorem bi_set (x0 : List Int) (i d : Nat) (h : i + (d + 1) = x0.length) :
    (x0.take i ++ List.replicate (d + 1) 0).set i (x0.getD i 0) = x0.take (i + 1) ++ List.replicate d 0 := by
  have hl : (x0.take i).length = i := by simp; omega
  rw [List.set_append, if_neg (by omega), hl, Nat.sub_self, List.replicate_succ, List.set_cons_zero,
    List.take_succ_eq_append_getElem (by omega), List.append_assoc]
  congr 1
  have : x0.getD i 0 = x0[i]'(by omega) := by simp [List.getD_eq_getElem?_getD, List.getElem?_eq_getElem (show i < x0.length by omega)]
  rw [this]; rfl

theorem bi_toIntS_l (x0 : List Int) (hn : x0.length ≤ 1048576) : ∀ d k i, i + d = x0.length → d < k →
    laws_toIntS.l0 k x0 (x0.take i ++ List.replicate d 0) (i : Int) = some x0 := by
  intro d
  induction d with
  | zero =>
    intro k i hi hk
    obtain ⟨k, rfl⟩ : ∃ m, k = m + 1 := ⟨k - 1, by omega⟩
    simp only [laws_toIntS.l0]
    rw [if_neg (by omega)]
    rw [List.take_of_length_le (by omega)]; simp
  | succ d ih =>
    intro k i hi hk
    obtain ⟨k, rfl⟩ : ∃ m, k = m + 1 := ⟨k - 1, by omega⟩
    simp only [laws_toIntS.l0]
    rw [if_pos (by omega), if_pos (by omega), if_pos (by simp; omega), bi_wrap i x0.length (by omega) hn, bi_rd, Int.toNat_natCast, bi_set x0 i d hi]
    exact ih k (i + 1) (by omega) (by omega)

theorem bi_toIntS (x0 : List Int) (hn : x0.length ≤ 1048576) (k : Nat) (hk : x0.length < k) : laws_toIntS.f k x0 = some x0 := by
  unfold laws_toIntS.f
  rw [if_pos (by omega), if_pos (by omega)]
  have := bi_toIntS_l x0 hn x0.length k 0 (by omega) hk
  simpa using this

theorem bi_eqIntS_l (x0 : List Int) (hn : x0.length ≤ 1048576) : ∀ d k i, i + d = x0.length → d < k →
    laws_eqIntS.l0 k x0 x0 (i : Int) = some true := by
  intro d
  induction d with
  | zero =>
    intro k i hi hk
    obtain ⟨k, rfl⟩ : ∃ m, k = m + 1 := ⟨k - 1, by omega⟩
    simp only [laws_eqIntS.l0]
    rw [if_neg (by omega)]
  | succ d ih =>
    intro k i hi hk
    obtain ⟨k, rfl⟩ : ∃ m, k = m + 1 := ⟨k - 1, by omega⟩
    simp only [laws_eqIntS.l0]
    rw [if_pos (by omega), if_pos (by omega), if_pos (by omega), if_pos trivial, bi_wrap i x0.length (by omega) hn]
    exact ih k (i + 1) (by omega) (by omega)

theorem bi_eqIntS (x0 : List Int) (hn : x0.length ≤ 1048576) (k : Nat) (hk : x0.length < k) : laws_eqIntS.f k x0 x0 = some true := by
  unfold laws_eqIntS.f
  rw [if_pos rfl]
  simpa using bi_eqIntS_l x0 hn x0.length k 0 (by omega) hk

theorem bi_forest_l (x0 : List Int) (hn : x0.length ≤ 1048576) : ∀ d k i, i + d = x0.length → d < k →
    ∃ r, spec_l13Forest.l0 k x0 x0 (x0.length : Int) (i : Int) = some r ∧ impl_GoodForest.l0 k x0 x0 (x0.length : Int) (i : Int) = some r := by
  intro d
  induction d with
  | zero =>
    intro k i hi hk
    obtain ⟨k, rfl⟩ : ∃ m, k = m + 1 := ⟨k - 1, by omega⟩
    simp only [spec_l13Forest.l0, impl_GoodForest.l0]
    rw [if_neg (by omega)]
    exact ⟨_, rfl, by rw [if_neg (by omega)]⟩
  | succ d ih =>
    intro k i hi hk
    obtain ⟨k, rfl⟩ : ∃ m, k = m + 1 := ⟨k - 1, by omega⟩
    obtain ⟨r, h1, h2⟩ := ih k (i + 1) (by omega) (by omega)
    simp only [spec_l13Forest.l0, impl_GoodForest.l0, spec_l1In.f, impl_within.f]
    rw [if_pos (by omega), if_pos (by omega), if_pos (by omega), bi_wrap i x0.length (by omega) hn, h1, h2]
    simp only [if_pos (show (i : Int) < (x0.length : Int) by omega), if_pos (show (0 : Int) ≤ (i : Int) by omega)]
    by_cases c : rd x0 (i : Int) ≥ -1
    · rw [if_pos c]; simp only [Option.bind_some]
      by_cases c2 : rd x0 (i : Int) ≤ wrap64 ((i : Int) - 1)
      · simp [c2]
      · simp [c2]
    · rw [if_neg c]; simp

theorem bi_forest (x0 : List Int) (hn : x0.length ≤ 1048576) (k : Nat) (hk : x0.length < k) :
    ∃ r, spec_l13Forest.f k x0 = some r ∧ impl_GoodForest.f k x0 = some r := by
  have := bi_forest_l x0 hn x0.length k 0 (by omega) hk
  simpa [spec_l13Forest.f, impl_GoodForest.f] using this

/-- Both loops collect alike; what is collected is no longer than what was gone through. -/
theorem bi_below_l (x0 : List Int) (t : Int) (hn : x0.length ≤ 1048576) : ∀ d k i out, i + d = x0.length → d < k → out.length ≤ i →
    ∃ r, spec_l13Below.l0 k t out x0 (x0.length : Int) (i : Int) = some r ∧ impl_belowIn.l0 k t out x0 (x0.length : Int) (i : Int) = some r ∧ r.length ≤ x0.length := by
  intro d
  induction d with
  | zero =>
    intro k i out hi hk ho
    obtain ⟨k, rfl⟩ : ∃ m, k = m + 1 := ⟨k - 1, by omega⟩
    simp only [spec_l13Below.l0, impl_belowIn.l0]
    rw [if_neg (by omega)]
    exact ⟨out, rfl, by rw [if_neg (by omega)], by omega⟩
  | succ d ih =>
    intro k i out hi hk ho
    obtain ⟨k, rfl⟩ : ∃ m, k = m + 1 := ⟨k - 1, by omega⟩
    simp only [spec_l13Below.l0, impl_belowIn.l0]
    rw [if_pos (by omega), if_pos (by omega), if_pos (by omega), bi_wrap i x0.length (by omega) hn]
    simp only [if_pos (show (i : Int) < (x0.length : Int) by omega), if_pos (show (0 : Int) ≤ (i : Int) by omega)]
    by_cases c : rd x0 (i : Int) = t
    · rw [if_pos c, if_pos (by omega)]
      obtain ⟨r, h1, h2, h3⟩ := ih k (i + 1) (out ++ [(i : Int)]) (by omega) (by omega) (by simp; omega)
      exact ⟨r, h1, by rw [if_pos c, if_pos (by omega)]; exact h2, h3⟩
    · rw [if_neg c]
      obtain ⟨r, h1, h2, h3⟩ := ih k (i + 1) out (by omega) (by omega) (by omega)
      exact ⟨r, h1, by rw [if_neg c]; exact h2, h3⟩

theorem bi_below (x0 : List Int) (t : Int) (hn : x0.length ≤ 1048576) (k : Nat) (hk : x0.length < k) :
    ∃ r, spec_l13Below.f k x0 t = some r ∧ impl_belowIn.f k x0 t = some r ∧ r.length ≤ x0.length := by
  have := bi_below_l x0 t hn x0.length k 0 [] (by omega) hk (by simp)
  simpa [spec_l13Below.f, impl_belowIn.f] using this

theorem bi_both (x0 : List Int) (t : Int) (hn : x0.length ≤ 1048576) (k : Nat) (hk : x0.length < k) :
    ∃ r b, spec_BelowIn.f k x0 t = some (r, b) ∧ impl_BelowIn.f k x0 t = some (r, b) ∧ r.length ≤ x0.length := by
  obtain ⟨f, f1, f2⟩ := bi_forest x0 hn k hk
  obtain ⟨r, r1, r2, r3⟩ := bi_below x0 t hn k hk
  unfold spec_BelowIn.f impl_BelowIn.f
  rw [f1, f2]
  simp only [Option.bind_some]
  cases f with
  | false => exact ⟨[], false, by simp, by simp, by simp⟩
  | true =>
    simp only [if_true]
    have e : impl_within.f t 0 (wrap64 ((x0.length : Int) - 1)) = spec_l1In.f t 0 (wrap64 ((x0.length : Int) - 1)) := rfl
    rw [e]
    have : ∃ b, spec_l1In.f t 0 (wrap64 ((x0.length : Int) - 1)) = some b := by
      unfold spec_l1In.f; split <;> exact ⟨_, rfl⟩
    obtain ⟨b, hb⟩ := this
    rw [hb]; simp only [Option.bind_some]
    cases b with
    | false => exact ⟨[], false, by simp, by simp, by simp⟩
    | true => rw [r1, r2]; exact ⟨r, true, by simp, by simp, r3⟩

def marks (k : Int) : Nat → List Int
  | 0 => []
  | n + 1 => k :: marks (k + 1) n

theorem marks_length (n : Nat) : ∀ k, (marks k n).length = n := by
  induction n with
  | zero => intro k; rfl
  | succ n ih => intro k; simp [marks, ih]

theorem marks_getD (n : Nat) : ∀ (k : Int) (i : Nat), i < n → (marks k n).getD i 0 = k + i := by
  induction n with
  | zero => intro k i h; omega
  | succ n ih =>
    intro k i h
    cases i with
    | zero => simp [marks]
    | succ i =>
      have := ih (k + 1) i (by omega)
      simp only [marks, List.getD_cons_succ, this]; omega

theorem mark_l (n : Nat) (hn : n ≤ 1048576) : ∀ d k i (x : List Int), x.length = n → i + d = n → d < k →
    ∃ y, laws_markIntS.l0 k x ((i : Int) + 1) (i : Int) = some ((n : Int) + 1, y) ∧ y.length = n ∧ (∀ j, j < i → y.getD j 0 = x.getD j 0) ∧ (∀ j, i ≤ j → j < n → y.getD j 0 = (j : Int) + 1) := by
  intro d
  induction d with
  | zero =>
    intro k i x hx hi hk
    obtain ⟨k, rfl⟩ : ∃ m, k = m + 1 := ⟨k - 1, by omega⟩
    simp only [laws_markIntS.l0]
    rw [if_neg (by omega)]
    obtain rfl : i = n := by omega
    exact ⟨x, rfl, hx, fun _ _ => rfl, fun j h1 h2 => by omega⟩
  | succ d ih =>
    intro k i x hx hi hk
    obtain ⟨k, rfl⟩ : ∃ m, k = m + 1 := ⟨k - 1, by omega⟩
    simp only [laws_markIntS.l0]
    rw [if_pos (by omega), if_pos (by omega)]
    have e1 : wrap64 ((i : Int) + 1 + 1) = ((i + 1 : Nat) : Int) + 1 := by unfold wrap64; omega
    have e2 : wrap64 ((i : Int) + 1) = ((i + 1 : Nat) : Int) := by unfold wrap64; omega
    rw [e1, e2, Int.toNat_natCast]
    obtain ⟨y, h1, h2, h3, h4⟩ := ih k (i + 1) (x.set i ((i : Int) + 1)) (by simpa using hx) (by omega) (by omega)
    refine ⟨y, h1, h2, fun j hj => ?_, fun j hj1 hj2 => ?_⟩
    · rw [h3 j (by omega)]
      simp only [List.getD_eq_getElem?_getD]
      rw [List.getElem?_set_ne (by omega)]
    · by_cases e : j = i
      · subst e
        rw [h3 j (by omega)]
        simp only [List.getD_eq_getElem?_getD]
        rw [List.getElem?_set_self (by omega)]; simp
      · exact h4 j (by omega) hj2

theorem mark_f (x : List Int) (hn : x.length ≤ 1048576) (k : Nat) (hk : x.length < k) :
    ∃ y, laws_markIntS.f k x 1 = some ((x.length : Int) + 1, y) ∧ y.length = x.length ∧ (∀ j, j < x.length → y.getD j 0 = (j : Int) + 1) := by
  obtain ⟨y, h1, h2, _, h4⟩ := mark_l x.length hn x.length k 0 x rfl (by omega) hk
  exact ⟨y, by simpa [laws_markIntS.f] using h1, h2, fun j hj => h4 j (by omega) hj⟩

theorem held_l (y : List Int) (n : Nat) (hn : n ≤ 1048576) (hy : y.length = n) (hv : ∀ j, j < n → y.getD j 0 = (j : Int) + 1) : ∀ d k i, i + d = n → d < k →
    laws_heldIntS.l0 k y ((i : Int) + 1) (i : Int) = some ((n : Int) + 1) := by
  intro d
  induction d with
  | zero =>
    intro k i hi hk
    obtain ⟨k, rfl⟩ : ∃ m, k = m + 1 := ⟨k - 1, by omega⟩
    simp only [laws_heldIntS.l0]
    rw [if_neg (by omega)]
    obtain rfl : i = n := by omega
    rfl
  | succ d ih =>
    intro k i hi hk
    obtain ⟨k, rfl⟩ : ∃ m, k = m + 1 := ⟨k - 1, by omega⟩
    simp only [laws_heldIntS.l0]
    have e1 : wrap64 ((i : Int) + 1 + 1) = ((i + 1 : Nat) : Int) + 1 := by unfold wrap64; omega
    have e2 : wrap64 ((i : Int) + 1) = ((i + 1 : Nat) : Int) := by unfold wrap64; omega
    rw [if_pos (by omega), if_pos (by omega), bi_rd, hv i (by omega), if_pos rfl, e1, e2]
    exact ih k (i + 1) (by omega) (by omega)

theorem held_f (y : List Int) (n : Nat) (hn : n ≤ 1048576) (hy : y.length = n) (hv : ∀ j, j < n → y.getD j 0 = (j : Int) + 1) (k : Nat) (hk : n < k) :
    laws_heldIntS.f k y 1 = some ((n : Int) + 1) := by
  simpa [laws_heldIntS.f] using held_l y n hn hy hv n k 0 (by omega) hk

theorem FnExactBelowIn : laws_FnExactBelowIn.Pure := by
  intro l t _ _ _ _
  by_cases hn : l.length ≤ 1048576
  · refine ⟨l.length + 4, ?_⟩
    have T := bi_toIntS l hn
    have E := fun k hk => bi_eqIntS l hn k hk
    obtain ⟨r, b, s0, i0, hr⟩ := bi_both l t hn (l.length + 4) (by omega)
    obtain ⟨r', b', s1, i1, hr'⟩ := bi_both l t hn (l.length + 2) (by omega)
    have hrn : r.length ≤ 1048576 := by omega
    have same : r' = r ∧ b' = b := by
      have := at_rounds (fun k => impl_BelowIn.mono l t k) (show l.length + 2 ≤ l.length + 4 by omega) i1
      rw [i0] at this
      have := Option.some.inj this
      exact ⟨(congrArg Prod.fst this).symm, (congrArg Prod.snd this).symm⟩
    obtain ⟨rfl, rfl⟩ := same
    obtain ⟨y, m1, m2, m3⟩ := mark_f l hn (l.length + 3) (by omega)
    obtain ⟨z, n1, n2, n3⟩ := mark_f r' hrn (l.length + 2) (by omega)
    have hz := held_f z r'.length hrn n2 n3
    unfold laws_FnExactBelowIn.f
    rw [if_neg (by omega), T (l.length + 4) (by omega)]
    simp only [Option.bind_some, s0, i0]
    rw [bi_eqIntS r' hrn (l.length + 4) (by omega)]
    simp only [Option.bind_some, if_true]
    rw [show (b' != b') = false by simp]
    simp only [laws_FnExactBelowIn.j0, T (l.length + 3) (by omega), E (l.length + 3) (by omega), Option.bind_some, m1]
    rw [if_neg (by simp), if_pos trivial, if_neg (by omega), bi_eqIntS r' hrn (l.length + 3) (by omega)]
    simp only [Option.bind_some, if_true, bne_self_eq_false]
    simp only [laws_FnExactBelowIn.j1]
    rw [if_neg (by simp), n1]
    simp only [Option.bind_some]
    rw [hz (l.length + 2) (by omega)]
    simp only [Option.bind_some]
    rw [if_neg (by omega), if_pos trivial, T (l.length + 2) (by omega)]
    simp only [Option.bind_some, i1]
    rw [bi_eqIntS r' hrn (l.length + 2) (by omega)]
    simp only [Option.bind_some, if_true, bne_self_eq_false]
    simp only [laws_FnExactBelowIn.j2]
    rw [if_neg (by simp), hz (l.length + 1) (by omega)]
    simp only [Option.bind_some]
    rw [if_neg (by omega), if_pos trivial]
  · refine ⟨0, ?_⟩
    unfold laws_FnExactBelowIn.f
    rw [if_pos (by omega)]

end Go.Proofs.Ytolpjohajdkgfaa.Pure
