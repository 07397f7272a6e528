/- Orders of events: the program's walk and the reference's positions say the same. -/
import Derived.Test.YtolpjohajdkgfaaTOrd
set_option linter.unusedSimpArgs false
set_option linter.unusedVariables false
namespace Go.VM.VL

/-- Different numbers below m: no more than m, and if m then all. -/
theorem pigeon : ∀ (m : Nat) (l : List Nat), l.Nodup → (∀ x ∈ l, x < m) → l.length ≤ m ∧ (l.length = m → ∀ x, x < m → x ∈ l)
  | 0, l, hn, h => by
    cases l with
    | nil => exact ⟨Nat.le_refl _, fun _ x hx => absurd hx (Nat.not_lt_zero x)⟩
    | cons a l => exact absurd (h a (by simp)) (Nat.not_lt_zero a)
  | m + 1, l, hn, h => by
    by_cases hm : m ∈ l
    · have hlen := List.length_erase_of_mem hm
      have hpos : 0 < l.length := List.length_pos_of_mem hm
      obtain ⟨h1, h2⟩ := pigeon m (l.erase m) (hn.erase m) (fun x hx => by
        have hx' := (hn.mem_erase_iff).1 hx
        have := h x hx'.2
        have := hx'.1
        omega)
      refine ⟨by omega, fun he x hx => ?_⟩
      by_cases hxm : x = m
      · rw [hxm]; exact hm
      · exact List.mem_of_mem_erase (h2 (by omega) x (by omega))
    · obtain ⟨h1, h2⟩ := pigeon m l hn (fun x hx => by
        have := h x hx
        have : x ≠ m := fun e => hm (e ▸ hx)
        omega)
      exact ⟨by omega, fun he => by omega⟩

def Is (kd t : Int) (e : Ev) : Prop := e.1 = kd ∧ e.2.1 = t
def Has (kd t : Int) (s : List Ev) : Prop := ∃ e ∈ s, Is kd t e
def Pos (l : List Ev) (kd t : Int) (j : Nat) : Prop := ∃ h : j < l.length, Is kd t l[j] ∧ ∀ j' (h' : j' < l.length), Is kd t l[j'] → j' = j

theorem has_take {kd t : Int} {l : List Ev} {j : Nat} : Has kd t (l.take j) ↔ ∃ k, k < j ∧ ∃ h : k < l.length, Is kd t l[k] := by
  constructor
  · rintro ⟨e, he, hi⟩
    obtain ⟨k, hk, rfl⟩ := List.mem_take_iff_getElem.1 he
    exact ⟨k, by omega, by omega, hi⟩
  · rintro ⟨k, hk, h, hi⟩
    exact ⟨l[k], List.mem_take_iff_getElem.2 ⟨k, by omega, rfl⟩, hi⟩

theorem scan_done {kd t : Int} : ∀ (l : List Ev) (i : Nat) (a : Int), 0 ≤ a → (0 ≤ scan kd t l i a → scan kd t l i a = a ∧ ∀ j (h : j < l.length), ¬ Is kd t l[j]) ∧ ((∀ j (h : j < l.length), ¬ Is kd t l[j]) → scan kd t l i a = a)
  | [], i, a, ha => ⟨fun _ => ⟨rfl, fun j h => absurd h (Nat.not_lt_zero j)⟩, fun _ => rfl⟩
  | e :: l, i, a, ha => by
    unfold scan
    by_cases hm : e.1 = kd ∧ e.2.1 = t
    · rw [if_pos hm, if_pos ha]
      exact ⟨fun h => absurd h (by omega), fun h => absurd hm (h 0 (by simp))⟩
    · rw [if_neg hm]
      obtain ⟨h1, h2⟩ := scan_done (kd := kd) (t := t) l (i + 1) a ha
      refine ⟨fun h => ⟨(h1 h).1, fun j hj => ?_⟩, fun h => h2 fun j hj => h (j + 1) (by simp; omega)⟩
      cases j with
      | zero => exact hm
      | succ j => exact (h1 h).2 j (by simpa using hj)

theorem scan_pos {kd t : Int} : ∀ (l : List Ev) (i : Nat), 0 ≤ scan kd t l i (-1) → ∃ j, scan kd t l i (-1) = ((i + j : Nat) : Int) ∧ Pos l kd t j
  | [], i, h => by simp [scan] at h
  | e :: l, i, h => by
    unfold scan at h ⊢
    by_cases hm : e.1 = kd ∧ e.2.1 = t
    · rw [if_pos hm, if_neg (by omega)] at h ⊢
      obtain ⟨h1, h2⟩ := (scan_done (kd := kd) (t := t) l (i + 1) (i : Int) (by omega)).1 h
      refine ⟨0, by rw [h1]; omega, by simp, hm, fun j' h' hi => ?_⟩
      cases j' with
      | zero => rfl
      | succ j' => exact absurd hi (h2 j' (by simpa using h'))
    · rw [if_neg hm] at h ⊢
      obtain ⟨j, h1, h2, h3, h4⟩ := scan_pos (kd := kd) (t := t) l (i + 1) h
      refine ⟨j + 1, by rw [h1]; omega, by simp; omega, h3, fun j' h' hi => ?_⟩
      cases j' with
      | zero => exact absurd hi hm
      | succ j' => rw [h4 j' (by simpa using h') hi]

theorem scan_of {kd t : Int} : ∀ (l : List Ev) (i j : Nat), Pos l kd t j → scan kd t l i (-1) = ((i + j : Nat) : Int)
  | [], i, j, ⟨h, _⟩ => absurd h (Nat.not_lt_zero j)
  | e :: l, i, j, ⟨h, h1, h2⟩ => by
    unfold scan
    by_cases hm : e.1 = kd ∧ e.2.1 = t
    · rw [if_pos hm, if_neg (by omega)]
      have h0 := h2 0 (by simp) hm
      subst h0
      rw [(scan_done (kd := kd) (t := t) l (i + 1) (i : Int) (by omega)).2 fun j' hj hi => by have := h2 (j' + 1) (by simp; omega) hi; omega]
      rfl
    · rw [if_neg hm]
      cases j with
      | zero => exact absurd h1 hm
      | succ j =>
        rw [scan_of l (i + 1) j ⟨by simpa using h, h1, fun j' hj hi => by have := h2 (j' + 1) (by simp; omega) hi; omega⟩]
        omega

theorem atI_some {l : List Ev} {kd t : Int} (h : 0 ≤ atI l kd t) : ∃ j : Nat, atI l kd t = (j : Int) ∧ Pos l kd t j := by
  obtain ⟨j, h1, h2⟩ := scan_pos l 0 h
  exact ⟨j, by rw [atI, h1]; omega, h2⟩
theorem atI_of {l : List Ev} {kd t : Int} {j : Nat} (h : Pos l kd t j) : atI l kd t = (j : Int) := by
  rw [atI, scan_of l 0 j h]; omega

theorem Pos.ne {l : List Ev} {kd t kd' t' : Int} {j j' : Nat} (h : Pos l kd t j) (h' : Pos l kd' t' j') (hne : kd ≠ kd' ∨ t ≠ t') : j ≠ j' := by
  rintro rfl
  obtain ⟨_, ⟨h1, h2⟩, _⟩ := h
  obtain ⟨_, ⟨h3, h4⟩, _⟩ := h'
  rcases hne with hne | hne
  · exact hne (h1.symm.trans h3)
  · exact hne (h2.symm.trans h4)

/-! ### the walk -/

def Valid (ups : List Int) (seen : List Ev) (e : Ev) : Prop :=
  (0 ≤ e.2.1 ∧ e.2.1 < (ups.length : Int)) ∧
    ((e.1 = 1 ∧ ¬ Has 1 e.2.1 seen ∧ (at0 ups e.2.1.toNat < 0 ∨ Has 1 (at0 ups e.2.1.toNat) seen)) ∨
     (e.1 = 2 ∧ Has 1 e.2.1 seen ∧ ¬ Has 2 e.2.1 seen ∧ ∀ j : Nat, j < ups.length → at0 ups j = e.2.1 → Has 2 (j : Int) seen))

structure Seen (ups : List Int) (seen : List Ev) (pre post : List Bool) : Prop where
  l1 : pre.length = ups.length
  l2 : post.length = ups.length
  pre : ∀ i : Nat, i < ups.length → (atB pre i = true ↔ Has 1 (i : Int) seen)
  post : ∀ i : Nat, i < ups.length → (atB post i = true ↔ Has 2 (i : Int) seen)

theorem atB_set {l : List Bool} {i j : Nat} (hi : i < l.length) : atB (setAt l i true) j = true ↔ (j = i ∨ atB l j = true) := by
  unfold atB
  rw [List.getD_eq_getElem?_getD, List.getD_eq_getElem?_getD, setAt_eq]
  by_cases h : i = j
  · subst h; rw [List.getElem?_set_self hi]; simp
  · rw [List.getElem?_set_ne h]
    constructor
    · exact .inr
    · rintro (h' | h')
      · exact absurd h'.symm h
      · exact h'

theorem has_snoc {kd t : Int} {s : List Ev} {e : Ev} : Has kd t (s ++ [e]) ↔ (Has kd t s ∨ Is kd t e) := by
  constructor
  · rintro ⟨x, hx, hi⟩
    rcases List.mem_append.1 hx with hx | hx
    · exact .inl ⟨x, hx, hi⟩
    · rw [List.mem_singleton.1 hx] at hi; exact .inr hi
  · rintro (⟨x, hx, hi⟩ | hi)
    · exact ⟨x, List.mem_append_left _ hx, hi⟩
    · exact ⟨e, by simp, hi⟩

theorem valid_iff {ups : List Int} (hg : ∀ i, i < ups.length → -1 ≤ at0 ups i ∧ at0 ups i ≤ (i : Int) - 1) {seen : List Ev} {pre post : List Bool} (h : Seen ups seen pre post) (e : Ev) : validB ups pre post e = true ↔ Valid ups seen e := by
  unfold validB Valid
  rw [Bool.and_eq_true, inR_iff]
  have h1 : (0 ≤ e.2.1 ∧ e.2.1 ≤ (ups.length : Int) - 1) ↔ (0 ≤ e.2.1 ∧ e.2.1 < (ups.length : Int)) := by omega
  rw [h1]
  refine and_congr_right fun hr => ?_
  have ht : e.2.1.toNat < ups.length := by omega
  have hte : ((e.2.1.toNat : Nat) : Int) = e.2.1 := by omega
  have p1 := h.pre _ ht
  have p2 := h.post _ ht
  rw [hte] at p1 p2
  have hgt := hg _ ht
  have pu : (at0 ups e.2.1.toNat < 0 ∨ atB pre (at0 ups e.2.1.toNat).toNat = true) ↔ (at0 ups e.2.1.toNat < 0 ∨ Has 1 (at0 ups e.2.1.toNat) seen) := by
    by_cases c : at0 ups e.2.1.toNat < 0
    · simp [c]
    · have := h.pre (at0 ups e.2.1.toNat).toNat (by omega)
      rw [show (((at0 ups e.2.1.toNat).toNat : Nat) : Int) = at0 ups e.2.1.toNat by omega] at this
      rw [this]
  have pk : ((kids ups e.2.1 0 ups.length).all fun j => atB post j.toNat) = true ↔ ∀ j : Nat, j < ups.length → at0 ups j = e.2.1 → Has 2 (j : Int) seen := by
    rw [List.all_eq_true]
    constructor
    · intro hk j hj hu
      have := hk (j : Int) (kids_of hj hu)
      rw [Int.toNat_natCast] at this
      exact (h.post j hj).1 this
    · intro hk j hj
      obtain ⟨k1, k2, k3⟩ := kids_mem hj
      have := hk j.toNat (by omega) k3
      exact (h.post j.toNat (by omega)).2 this
  simp only [Bool.or_eq_true, Bool.and_eq_true, decide_eq_true_eq, Bool.not_eq_true', Bool.eq_false_iff, ne_eq]
  rw [pk, pu, p1, p2]

theorem seen_step {ups : List Int} {seen : List Ev} {pre post : List Bool} (h : Seen ups seen pre post) {e : Ev} (hv : Valid ups seen e) :
    Seen ups (seen ++ [e]) (if e.1 = 1 then setAt pre e.2.1.toNat true else pre) (if e.1 = 1 then post else setAt post e.2.1.toNat true) := by
  obtain ⟨hr, hk⟩ := hv
  have ht : e.2.1.toNat < ups.length := by omega
  rcases hk with ⟨h1, _⟩ | ⟨h1, _⟩
  · rw [if_pos h1, if_pos h1]
    refine ⟨by rw [length_setAt]; exact h.l1, h.l2, fun i hi => ?_, fun i hi => ?_⟩
    · rw [atB_set (by rw [h.l1]; exact ht), h.pre i hi, has_snoc]
      unfold Is
      constructor
      · rintro (rfl | h')
        · exact .inr ⟨h1, by omega⟩
        · exact .inl h'
      · rintro (h' | ⟨_, h'⟩)
        · exact .inr h'
        · exact .inl (by omega)
    · rw [h.post i hi, has_snoc]
      unfold Is
      constructor
      · exact .inl
      · rintro (h' | ⟨h', _⟩)
        · exact h'
        · omega
  · have hn : ¬ e.1 = 1 := by omega
    rw [if_neg hn, if_neg hn]
    refine ⟨h.l1, by rw [length_setAt]; exact h.l2, fun i hi => ?_, fun i hi => ?_⟩
    · rw [h.pre i hi, has_snoc]
      unfold Is
      constructor
      · exact .inl
      · rintro (h' | ⟨h', _⟩)
        · exact h'
        · omega
    · rw [atB_set (by rw [h.l2]; exact ht), h.post i hi, has_snoc]
      unfold Is
      constructor
      · rintro (rfl | h')
        · exact .inr ⟨h1, by omega⟩
        · exact .inl h'
      · rintro (h' | ⟨_, h'⟩)
        · exact .inr h'
        · exact .inl (by omega)

theorem run_iff {ups : List Int} (hg : ∀ i, i < ups.length → -1 ≤ at0 ups i ∧ at0 ups i ≤ (i : Int) - 1) : ∀ (l : List Ev) (seen : List Ev) (pre post : List Bool), Seen ups seen pre post →
    (runI ups l pre post = true ↔ ∀ j (h : j < l.length), Valid ups (seen ++ l.take j) l[j])
  | [], seen, pre, post, hs => ⟨fun _ j h => absurd h (Nat.not_lt_zero j), fun _ => rfl⟩
  | e :: l, seen, pre, post, hs => by
    unfold runI
    rw [Bool.and_eq_true, valid_iff hg hs]
    constructor
    · rintro ⟨h1, h2⟩ j hj
      cases j with
      | zero => simpa using h1
      | succ j =>
        have := (run_iff hg l _ _ _ (seen_step hs h1)).1 h2 j (by simpa using hj)
        simpa using this
    · intro h
      have h1 : Valid ups seen e := by
        have := h 0 (by simp)
        simp only [List.take_zero, List.append_nil, List.getElem_cons_zero] at this
        exact this
      refine ⟨h1, (run_iff hg l _ _ _ (seen_step hs h1)).2 fun j hj => ?_⟩
      have := h (j + 1) (by simp; omega)
      simpa using this

def Cond (ups : List Int) (l : List Ev) (i : Nat) : Prop :=
  ∃ p q : Nat, Pos l 1 (i : Int) p ∧ Pos l 2 (i : Int) q ∧ p ≤ q ∧ (0 ≤ at0 ups i → atI l 1 (at0 ups i) ≤ (p : Int) ∧ (q : Int) ≤ atI l 2 (at0 ups i))

theorem cond_iff (ups : List Int) (l : List Ev) (i : Nat) : condB ups l i = true ↔ Cond ups l i := by
  unfold condB Cond
  simp only [Bool.and_eq_true, Bool.not_eq_true', decide_eq_false_iff_not, Bool.or_eq_true, Int.not_lt, ge_iff_le, Int.not_le, gt_iff_lt]
  constructor
  · rintro ⟨⟨h1, h2⟩, h3⟩
    obtain ⟨p, e1, hp⟩ := atI_some h1
    obtain ⟨q, e2, hq⟩ := atI_some (show 0 ≤ atI l 2 i by omega)
    refine ⟨p, q, hp, hq, by omega, fun hu => ?_⟩
    rcases h3 with h3 | h3
    · omega
    · rw [← e1, ← e2]; exact h3
  · rintro ⟨p, q, hp, hq, hpq, h3⟩
    rw [atI_of hp, atI_of hq]
    refine ⟨⟨by omega, by omega⟩, ?_⟩
    by_cases hu : 0 ≤ at0 ups i
    · exact .inr (h3 hu)
    · exact .inl (by omega)

theorem orders (ups : List Int) (l : List Ev) (hg : ∀ i, i < ups.length → -1 ≤ at0 ups i ∧ at0 ups i ≤ (i : Int) - 1) (hlen : l.length = 2 * ups.length) :
    (∀ i, i < ups.length → Cond ups l i) ↔ ∀ j (h : j < l.length), Valid ups (l.take j) l[j] := by
  constructor
  · intro hc j hj
    -- every place is the place of some event that must be
    let pos : Nat → Nat := fun c => if c % 2 = 0 then (atI l 1 ((c / 2 : Nat) : Int)).toNat else (atI l 2 ((c / 2 : Nat) : Int)).toNat
    have hpos : ∀ c, c < 2 * ups.length → ∃ kd : Int, kd = (c % 2 : Nat) + 1 ∧ Pos l kd ((c / 2 : Nat) : Int) (pos c) := by
      intro c hcl
      obtain ⟨p, q, hp, hq, _⟩ := hc (c / 2) (by omega)
      by_cases he : c % 2 = 0
      · refine ⟨1, by omega, ?_⟩
        simp only [pos, if_pos he, atI_of hp, Int.toNat_natCast]; exact hp
      · refine ⟨2, by omega, ?_⟩
        simp only [pos, if_neg he, atI_of hq, Int.toNat_natCast]; exact hq
    have hnd : ((List.range (2 * ups.length)).map pos).Nodup := by
      unfold List.Nodup
      rw [List.pairwise_map]
      refine List.Pairwise.imp_of_mem (fun {a b} ha hb hab => ?_) List.nodup_range
      rw [List.mem_range] at ha hb
      obtain ⟨k1, e1, p1⟩ := hpos a ha
      obtain ⟨k2, e2, p2⟩ := hpos b hb
      exact p1.ne p2 (by omega)
    obtain ⟨_, hall⟩ := pigeon (2 * ups.length) _ hnd (fun x hx => by
      obtain ⟨c, hcm, rfl⟩ := List.mem_map.1 hx
      obtain ⟨_, _, hh, _⟩ := hpos c (List.mem_range.1 hcm)
      omega)
    obtain ⟨c, hcm, hcj⟩ := List.mem_map.1 (hall (by simp) j (by omega))
    rw [List.mem_range] at hcm
    obtain ⟨kd, hkd, hP⟩ := hpos c hcm
    rw [hcj] at hP
    obtain ⟨p, q, hp, hq, hpq, hu⟩ := hc (c / 2) (by omega)
    obtain ⟨_, hi, huniq⟩ := hP
    have hin : c / 2 < ups.length := by omega
    obtain ⟨i1, i2⟩ := hi
    unfold Valid
    rw [i2]
    refine ⟨⟨by omega, by omega⟩, ?_⟩
    rw [Int.toNat_natCast]
    have hgi := hg _ hin
    have nohas : ¬ Has kd ((c / 2 : Nat) : Int) (l.take j) := by
      rw [has_take]
      rintro ⟨k, hk, hkl, hik⟩
      have := huniq k hkl hik
      omega
    by_cases he : c % 2 = 0
    · left
      have hk1 : kd = 1 := by omega
      subst hk1
      have hpj : p = j := by
        obtain ⟨hpl, hpi, _⟩ := hp
        exact huniq p hpl hpi
      refine ⟨i1, nohas, ?_⟩
      by_cases hneg : at0 ups (c / 2) < 0
      · exact .inl hneg
      · right
        have hu1 := (hu (by omega)).1
        obtain ⟨p', q', hp', _⟩ := hc (at0 ups (c / 2)).toNat (by omega)
        rw [show (((at0 ups (c / 2)).toNat : Nat) : Int) = at0 ups (c / 2) by omega] at hp'
        rw [atI_of hp'] at hu1
        have hne := hp'.ne hp (.inr (by omega))
        rw [has_take]
        obtain ⟨hpl, hpi, _⟩ := hp'
        exact ⟨p', by omega, hpl, hpi⟩
    · right
      have hk2 : kd = 2 := by omega
      subst hk2
      have hqj : q = j := by
        obtain ⟨hql, hqi, _⟩ := hq
        exact huniq q hql hqi
      refine ⟨i1, ?_, nohas, fun k hk hku => ?_⟩
      · have hne := hp.ne hq (.inl (by omega))
        rw [has_take]
        obtain ⟨hpl, hpi, _⟩ := hp
        exact ⟨p, by omega, hpl, hpi⟩
      · obtain ⟨p', q', _, hq', _, hu'⟩ := hc k hk
        rw [hku] at hu'
        have hu2 := (hu' (by omega)).2
        rw [atI_of hq] at hu2
        have hgk := hg _ hk
        have hne := hq'.ne hq (.inr (by omega))
        rw [has_take]
        obtain ⟨hql, hqi, _⟩ := hq'
        exact ⟨q', by omega, hql, hqi⟩
  · intro hv
    let code : Ev → Nat := fun e => 2 * e.2.1.toNat + (e.1 - 1).toNat
    have hcode : ∀ j (h : j < l.length), code l[j] < 2 * ups.length := by
      intro j h
      obtain ⟨h1, h2⟩ := hv j h
      simp only [code]
      rcases h2 with ⟨h2, _⟩ | ⟨h2, _⟩ <;> omega
    have hsame : ∀ j j' (h : j < l.length) (h' : j' < l.length), j < j' → code l[j] ≠ code l[j'] := by
      intro j j' h h' hlt he
      obtain ⟨h1, h2⟩ := hv j h
      obtain ⟨h3, h4⟩ := hv j' h'
      simp only [code] at he
      have hk : l[j].1 = l[j'].1 := by
        rcases h2 with ⟨h2, _⟩ | ⟨h2, _⟩ <;> rcases h4 with ⟨h4, _⟩ | ⟨h4, _⟩ <;> omega
      have ht : l[j].2.1 = l[j'].2.1 := by
        rcases h2 with ⟨h2, _⟩ | ⟨h2, _⟩ <;> rcases h4 with ⟨h4, _⟩ | ⟨h4, _⟩ <;> omega
      rcases h4 with ⟨h4, h5, _⟩ | ⟨h4, _, h5, _⟩
      · exact h5 (has_take.2 ⟨j, hlt, h, hk.trans h4, ht⟩)
      · exact h5 (has_take.2 ⟨j, hlt, h, hk.trans h4, ht⟩)
    have hnd : (l.map code).Nodup := by
      unfold List.Nodup
      rw [List.pairwise_map, List.pairwise_iff_getElem]
      exact fun i j hi hj hij => hsame i j hi hj hij
    obtain ⟨_, hall⟩ := pigeon (2 * ups.length) _ hnd (fun x hx => by
      obtain ⟨e, he, rfl⟩ := List.mem_map.1 hx
      obtain ⟨j, hj, rfl⟩ := List.mem_iff_getElem.1 he
      exact hcode j hj)
    have hall := hall (by simp; exact hlen)
    have hP : ∀ (i : Nat) (kd : Int), i < ups.length → (kd = 1 ∨ kd = 2) → ∃ j, Pos l kd (i : Int) j := by
      intro i kd hi hkd
      obtain ⟨e, he, hce⟩ := List.mem_map.1 (hall (2 * i + (kd - 1).toNat) (by omega))
      obtain ⟨j, hj, rfl⟩ := List.mem_iff_getElem.1 he
      have hdec : Is kd (i : Int) l[j] := by
        obtain ⟨h1, h2⟩ := hv j hj
        simp only [code] at hce
        unfold Is
        rcases h2 with ⟨h2, _⟩ | ⟨h2, _⟩ <;> rcases hkd with rfl | rfl <;> omega
      refine ⟨j, hj, hdec, fun j' h' hi' => ?_⟩
      have hcc : code l[j'] = code l[j] := by
        simp only [code]
        rw [hi'.1, hi'.2, hdec.1, hdec.2]
      rcases Nat.lt_trichotomy j' j with h | h | h
      · exact absurd hcc (hsame j' j h' hj h)
      · exact h
      · exact absurd hcc.symm (hsame j j' hj h' h)
    intro i hi
    obtain ⟨p, hp⟩ := hP i 1 hi (.inl rfl)
    obtain ⟨q, hq⟩ := hP i 2 hi (.inr rfl)
    have hgi := hg _ hi
    obtain ⟨hpl, hpi, hpu⟩ := id hp
    obtain ⟨hql, hqi, hqu⟩ := id hq
    have hp1 : l[p].1 = 1 := hpi.1
    have hp2 : l[p].2.1 = (i : Int) := hpi.2
    have hq1 : l[q].1 = 2 := hqi.1
    have hq2 : l[q].2.1 = (i : Int) := hqi.2
    have vp := hv p hpl
    have vq := hv q hql
    unfold Valid at vp vq
    rw [hp2, Int.toNat_natCast] at vp
    rw [hq2, Int.toNat_natCast] at vq
    refine ⟨p, q, hp, hq, ?_, fun hu => ?_⟩
    · rcases vq.2 with ⟨h1, _⟩ | ⟨_, h2, _⟩
      · omega
      · obtain ⟨k, hk, hkl, hki⟩ := has_take.1 h2
        have := hpu k hkl hki
        omega
    · obtain ⟨p', hp'⟩ := hP (at0 ups i).toNat 1 (by omega) (.inl rfl)
      obtain ⟨q', hq'⟩ := hP (at0 ups i).toNat 2 (by omega) (.inr rfl)
      rw [show (((at0 ups i).toNat : Nat) : Int) = at0 ups i by omega] at hp' hq'
      rw [atI_of hp', atI_of hq']
      constructor
      · rcases vp.2 with ⟨_, _, h2⟩ | ⟨h1, _⟩
        · rcases h2 with h2 | h2
          · omega
          · obtain ⟨k, hk, hkl, hki⟩ := has_take.1 h2
            have := hp'.2.2 k hkl hki
            omega
        · omega
      · obtain ⟨hql', hqi', hqu'⟩ := id hq'
        have hq1' : l[q'].1 = 2 := hqi'.1
        have hq2' : l[q'].2.1 = at0 ups i := hqi'.2
        have vq' := hv q' hql'
        unfold Valid at vq'
        rw [hq2'] at vq'
        rcases vq'.2 with ⟨h1, _⟩ | ⟨_, _, _, h2⟩
        · omega
        · obtain ⟨k, hk, hkl, hki⟩ := has_take.1 (h2 i hi rfl)
          have := hqu k hkl hki
          omega

/-- The program and the reference answer alike. -/
theorem same_order {ups : List Int} {l : List Ev} (hg : goodB ups = true) : specB ups l = implB ups l := by
  obtain ⟨h40, hg2⟩ := goodB_at hg
  unfold specB implB
  by_cases hlen : l.length = 2 * ups.length
  · rw [decide_eq_true hlen, Bool.and_true, Bool.and_true]
    have hs : Seen ups [] (List.replicate ups.length false) (List.replicate ups.length false) := by
      have hf : ∀ i, atB (List.replicate ups.length false) i = false := fun i => by
        unfold atB
        rw [List.getD_eq_getElem?_getD, List.getElem?_replicate]
        split <;> rfl
      refine ⟨List.length_replicate, List.length_replicate, fun i hi => ?_, fun i hi => ?_⟩
      · rw [hf]; exact ⟨fun h => (by cases h), fun ⟨_, h, _⟩ => (by cases h)⟩
      · rw [hf]; exact ⟨fun h => (by cases h), fun ⟨_, h, _⟩ => (by cases h)⟩
    rw [Bool.eq_iff_iff, List.all_eq_true, run_iff hg2 l [] _ _ hs]
    have h1 : (∀ x ∈ List.range' 0 ups.length, condB ups l x = true) ↔ ∀ i, i < ups.length → Cond ups l i := by
      constructor
      · intro h i hi
        exact (cond_iff ups l i).1 (h i (by rw [List.mem_range']; exact ⟨i, hi, by omega⟩))
      · intro h x hx
        rw [List.mem_range'] at hx
        obtain ⟨k, hk, rfl⟩ := hx
        exact (cond_iff ups l _).2 (h _ (by omega))
    rw [h1, orders ups l hg2 hlen]
    simp
  · rw [decide_eq_false hlen, Bool.and_false, Bool.and_false]

variable {R : Type} (N : Nat)
theorem t_szEventS {l : List Ev} (f : Fl) (k : Int → Option R) (hl : l.length ≤ 9223372036854775807) : g_laws_szEventS N (evs l) f 1048576 k = k (if l.length ≤ 1048576 then 1048576 - (l.length : Int) else -1) := by
  rw [g_laws_szEventS_eq]
  unfold gb_laws_szEventS
  rw [len_evs, wrap_i64 (x := 1048576 - (l.length : Int)) (by omega) (by omega)]
  by_cases h : l.length ≤ 1048576
  · rw [if_pos h, decide_eq_false (by omega)]
  · rw [if_neg h, decide_eq_true (by omega)]

/-- The law answers true. -/
theorem law_FnExactIsOrderly {ups : List Int} {l : List Ev} (hl : l.length ≤ 9223372036854775807) (f1 f2 : Fl) (k : Bool → Option R) : gb_laws_FnExactIsOrderly 1048600 (ints ups) f1 (evs l) f2 k = k true := by
  unfold gb_laws_FnExactIsOrderly
  rw [len_ints]
  by_cases hu : (ups.length : Int) > 1048576
  · rw [decide_eq_true hu]
  · rw [decide_eq_false hu]
    simp only
    rw [t_szEventS 1048600 _ _ hl]
    by_cases h : l.length ≤ 1048576
    · rw [if_pos h, decide_eq_false (by omega)]
      have hu' : ups.length ≤ 1048576 := by omega
      simp only [t_toIntS 1048600 hu' (by omega), t_toEventS 1048600 h (by omega), t_spec_IsOrderly 1048600 hu' h (by omega), t_impl_IsOrderly 1048600 hu' h (by omega), t_eqIntS 1048600 hu' (by omega), t_eqEventS 1048600 h (by omega)]
      have e : (goodB ups && implB ups l) = (goodB ups && specB ups l) := by
        cases hg : goodB ups with
        | false => rfl
        | true => rw [same_order hg]
      rw [e]
      simp only [beq_self_eq_true, Bool.not_true]
    · rw [if_neg h]
      rfl

end Go.VM.VL
