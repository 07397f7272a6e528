/- For every list of numbers the law FnExactGoodForest answers true: the program's GoodForest and the reference's answer alike and leave the list as it was. -/
import Derived.Test.YtolpjohajdkgfaaPFnExactGoodForestx1
namespace Go.Proofs.Ytolpjohajdkgfaa.Pure
open Go.RowKit Go.Proofs.Ytolpjohajdkgfaa.PFnExactGoodForest Go.Proofs.YtolpjohajdkgfaaW.PrintWords Go.Proofs.YtolpjohajdkgfaaW.PrintLast

theorem gf_wrap (i n : Nat) (h : i < n) (hn : n ≤ 1048576) : wrap64 ((i : Int) + 1) = ((i + 1 : Nat) : Int) := by
  unfold wrap64; omega

theorem gf_rd (xs : List Int) (i : Nat) : rd xs (i : Int) = xs.getD i 0 := by simp [rd]

theorem gf_set (x0 : List Int) (i d : Nat) (h : i + (d + 1) = x0.length) :
    (x0.take i ++ List.replicate (d + 1) 0).set i (x0.getD i 0) = x0.take (i + 1) ++ List.replicate d 0 := by
  have hl : (x0.take i).length = i := by simp; omega
  rw [List.set_append, if_neg (by omega), hl, Nat.sub_self, List.replicate_succ, List.set_cons_zero,
    List.take_succ_eq_append_getElem (by omega), List.append_assoc]
  congr 1
  have : x0.getD i 0 = x0[i]'(by omega) := by simp [List.getD_eq_getElem?_getD, List.getElem?_eq_getElem (show i < x0.length by omega)]
  rw [this]; rfl

theorem toIntS_l (x0 : List Int) (hn : x0.length ≤ 1048576) : ∀ d k i, i + d = x0.length → d < k →
    laws_toIntS.l0 k x0 (x0.take i ++ List.replicate d 0) (i : Int) = some x0 := by
  intro d
  induction d with
  | zero =>
    intro k i hi hk
    obtain ⟨k, rfl⟩ : ∃ m, k = m + 1 := ⟨k - 1, by omega⟩
    simp only [laws_toIntS.l0]
    rw [if_neg (by omega)]
    rw [List.take_of_length_le (by omega)]; simp
  | succ d ih =>
    intro k i hi hk
    obtain ⟨k, rfl⟩ : ∃ m, k = m + 1 := ⟨k - 1, by omega⟩
    simp only [laws_toIntS.l0]
    rw [if_pos (by omega), if_pos (by omega), if_pos (by simp; omega), gf_wrap i x0.length (by omega) hn, gf_rd, Int.toNat_natCast, gf_set x0 i d hi]
    exact ih k (i + 1) (by omega) (by omega)

theorem toIntS_f (x0 : List Int) (hn : x0.length ≤ 1048576) (k : Nat) (hk : x0.length < k) : laws_toIntS.f k x0 = some x0 := by
  unfold laws_toIntS.f
  rw [if_pos (by omega), if_pos (by omega)]
  have := toIntS_l x0 hn x0.length k 0 (by omega) hk
  simpa using this

theorem eqIntS_l (x0 : List Int) (hn : x0.length ≤ 1048576) : ∀ d k i, i + d = x0.length → d < k →
    laws_eqIntS.l0 k x0 x0 (i : Int) = some true := by
  intro d
  induction d with
  | zero =>
    intro k i hi hk
    obtain ⟨k, rfl⟩ : ∃ m, k = m + 1 := ⟨k - 1, by omega⟩
    simp only [laws_eqIntS.l0]
    rw [if_neg (by omega)]
  | succ d ih =>
    intro k i hi hk
    obtain ⟨k, rfl⟩ : ∃ m, k = m + 1 := ⟨k - 1, by omega⟩
    simp only [laws_eqIntS.l0]
    rw [if_pos (by omega), if_pos (by omega), if_pos (by omega), if_pos trivial, gf_wrap i x0.length (by omega) hn]
    exact ih k (i + 1) (by omega) (by omega)

theorem eqIntS_f (x0 : List Int) (hn : x0.length ≤ 1048576) (k : Nat) (hk : x0.length < k) : laws_eqIntS.f k x0 x0 = some true := by
  unfold laws_eqIntS.f
  rw [if_pos rfl]
  simpa using eqIntS_l x0 hn x0.length k 0 (by omega) hk

theorem forest_l (x0 : List Int) (hn : x0.length ≤ 1048576) : ∀ d k i, i + d = x0.length → d < k →
    ∃ r, spec_l13Forest.l0 k x0 x0 (x0.length : Int) (i : Int) = some r ∧ impl_GoodForest.l0 k x0 x0 (x0.length : Int) (i : Int) = some r := by
  intro d
  induction d with
  | zero =>
    intro k i hi hk
    obtain ⟨k, rfl⟩ : ∃ m, k = m + 1 := ⟨k - 1, by omega⟩
    simp only [spec_l13Forest.l0, impl_GoodForest.l0]
    rw [if_neg (by omega)]
    exact ⟨_, rfl, by rw [if_neg (by omega)]⟩
  | succ d ih =>
    intro k i hi hk
    obtain ⟨k, rfl⟩ : ∃ m, k = m + 1 := ⟨k - 1, by omega⟩
    obtain ⟨r, h1, h2⟩ := ih k (i + 1) (by omega) (by omega)
    simp only [spec_l13Forest.l0, impl_GoodForest.l0, spec_l1In.f, impl_within.f]
    rw [if_pos (by omega), if_pos (by omega), if_pos (by omega), gf_wrap i x0.length (by omega) hn, h1, h2]
    simp only [if_pos (show (i : Int) < (x0.length : Int) by omega), if_pos (show (0 : Int) ≤ (i : Int) by omega)]
    by_cases c : rd x0 (i : Int) ≥ -1
    · rw [if_pos c]; simp only [Option.bind_some]
      by_cases c2 : rd x0 (i : Int) ≤ wrap64 ((i : Int) - 1)
      · simp [c2]
      · simp [c2]
    · rw [if_neg c]; simp

theorem forest_f (x0 : List Int) (hn : x0.length ≤ 1048576) (k : Nat) (hk : x0.length < k) :
    ∃ r, spec_l13Forest.f k x0 = some r ∧ impl_GoodForest.f k x0 = some r := by
  have := forest_l x0 hn x0.length k 0 (by omega) hk
  simpa [spec_l13Forest.f, impl_GoodForest.f] using this

theorem FnExactGoodForest : laws_FnExactGoodForest.Pure := by
  intro l _ _ _
  by_cases hn : l.length ≤ 1048576
  · refine ⟨l.length + 1, ?_⟩
    obtain ⟨r, h1, h2⟩ := forest_f l hn (l.length + 1) (by omega)
    unfold laws_FnExactGoodForest.f spec_GoodForest.f
    rw [if_neg (by omega), toIntS_f l hn _ (by omega)]
    simp only [Option.bind_some, h1, h2, eqIntS_f l hn _ (Nat.lt_succ_self _)]
    simp
  · refine ⟨0, ?_⟩
    unfold laws_FnExactGoodForest.f
    rw [if_pos (by omega)]

end Go.Proofs.Ytolpjohajdkgfaa.Pure
