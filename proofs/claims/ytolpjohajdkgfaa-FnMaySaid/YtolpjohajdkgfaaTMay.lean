/- The law FnMay, told plainly: it answers true for all bytes. -/
import Derived.Test.YtolpjohajdkgfaaTCur
set_option linter.unusedSimpArgs false
set_option linter.unusedVariables false
namespace Go.VM.VL
open Go.Proofs

def inR (a b c : Int) : Bool := decide (b ≤ a) && decide (a ≤ c)
theorem inR_iff {a b c : Int} : inR a b c = true ↔ b ≤ a ∧ a ≤ c := by simp [inR]

variable {R : Type} (N : Nat)
theorem t_impl_within (a b c : Int) (k : Bool → Option R) : g_impl_within N a b c k = k (inR a b c) := by
  rw [g_impl_within_eq]
  unfold gb_impl_within inR
  by_cases h : b ≤ a
  · rw [decide_eq_true (show a ≥ b from h)]; simp
  · rw [decide_eq_false (show ¬ a ≥ b from h)]; simp
theorem t_spec_l1In (a b c : Int) (k : Bool → Option R) : g_spec_l1In N a b c k = k (inR a b c) := by
  rw [g_spec_l1In_eq]
  unfold gb_spec_l1In inR
  by_cases h : b ≤ a
  · rw [decide_eq_true (show a ≥ b from h)]; simp
  · rw [decide_eq_false (show ¬ a ≥ b from h)]; simp
theorem t_impl_isId (a : Int) (k : Bool → Option R) : g_impl_isId N a k = k (inR a 0 99) := by
  rw [g_impl_isId_eq]; unfold gb_impl_isId; rw [t_impl_within]
theorem t_impl_isMode (a : Int) (k : Bool → Option R) : g_impl_isMode N a k = k (inR a 0 511) := by
  rw [g_impl_isMode_eq]; unfold gb_impl_isMode; rw [t_impl_within]
theorem t_spec_l1Mode (a : Int) (k : Bool → Option R) : g_spec_l1Mode N a k = k (inR a 0 511) := by
  rw [g_spec_l1Mode_eq]; unfold gb_spec_l1Mode; rw [t_spec_l1In]
theorem t_impl_GoodCred (a b : Int) (k : Bool → Option R) : g_impl_GoodCred N a b k = k (inR a 0 99 && inR b 0 99) := by
  rw [g_impl_GoodCred_eq]; unfold gb_impl_GoodCred; simp only [t_impl_isId]
  cases inR a 0 99 <;> simp
theorem t_spec_l1Cred (a b : Int) (k : Bool → Option R) : g_spec_l1Cred N a b k = k (inR a 0 99 && inR b 0 99) := by
  rw [g_spec_l1Cred_eq]; unfold gb_spec_l1Cred; simp only [t_spec_l1In]
  cases inR a 0 99 <;> simp
theorem t_spec_GoodCred (a b : Int) (k : Bool → Option R) : g_spec_GoodCred N a b k = k (inR a 0 99 && inR b 0 99) := by
  rw [g_spec_GoodCred_eq]; unfold gb_spec_GoodCred; rw [t_spec_l1Cred]

/-- The bits of a mode that hold for a cred. -/
def bitsFor (cu cg mode uid gid : Int) : Int :=
  if cu = uid then Int.fdiv mode (2 ^ (min (6 : Int).toNat 64))
  else if cg = gid then band (Int.fdiv mode (2 ^ (min (3 : Int).toNat 64))) 7
  else band mode 7
def mayB (cu cg mode uid gid want : Int) : Bool := decide (cu = 0) || (bnot want (bitsFor cu cg mode uid gid) == 0)

theorem bits_range {cu cg mode uid gid : Int} (h : 0 ≤ mode ∧ mode ≤ 511) : 0 ≤ bitsFor cu cg mode uid gid ∧ bitsFor cu cg mode uid gid < 8 := by
  obtain ⟨m, rfl⟩ := Int.eq_ofNat_of_zero_le h.1
  have hm : m ≤ 511 := by omega
  have f6 : Int.fdiv (m : Int) (2 ^ (min (6 : Int).toNat 64)) = ((m / 64 : Nat) : Int) := by
    show Int.fdiv (m : Int) ((64 : Nat) : Int) = _
    rw [Int.fdiv_eq_ediv_of_nonneg _ (by omega)]; rfl
  have f3 : Int.fdiv (m : Int) (2 ^ (min (3 : Int).toNat 64)) = ((m / 8 : Nat) : Int) := by
    show Int.fdiv (m : Int) ((8 : Nat) : Int) = _
    rw [Int.fdiv_eq_ediv_of_nonneg _ (by omega)]; rfl
  have b7 : ∀ n : Nat, n ≤ 511 → 0 ≤ band (n : Int) 7 ∧ band (n : Int) 7 < 8 := by
    intro n hn
    have := band_nat (a := n) (b := 7) (by omega)
    have h2 : (n &&& 7 % 18446744073709551616) ≤ 7 := Nat.and_le_right
    have e : band (n : Int) ((7 : Nat) : Int) = band (n : Int) 7 := rfl
    rw [e] at this
    rw [this]
    omega
  unfold bitsFor
  split
  · rw [f6]; omega
  · split
    · rw [f3]; exact b7 _ (by omega)
    · exact b7 m hm

theorem bits_fact : ∀ b w : Fin 8, (bnot (w.val : Int) (b.val : Int) == 0) = (band (b.val : Int) (w.val : Int) == (w.val : Int)) := by decide +kernel
theorem bits_at {b w : Int} (hb : 0 ≤ b ∧ b < 8) (hw : 0 ≤ w ∧ w ≤ 7) : (bnot w b == 0) = (band b w == w) := by
  obtain ⟨m, rfl⟩ := Int.eq_ofNat_of_zero_le hb.1
  obtain ⟨n, rfl⟩ := Int.eq_ofNat_of_zero_le hw.1
  exact bits_fact ⟨m, by omega⟩ ⟨n, by omega⟩
theorem parts_fact : ∀ b w : Fin 8, ((bnot (band w.val 1) b.val == 0) && (bnot (band w.val 2) b.val == 0) && (bnot (band w.val 4) b.val == 0)) = (bnot (w.val : Int) (b.val : Int) == 0) := by decide +kernel
theorem parts_range : ∀ w : Fin 8, (0 ≤ band w.val 1 ∧ band w.val 1 ≤ 7) ∧ (0 ≤ band w.val 2 ∧ band w.val 2 ≤ 7) ∧ (0 ≤ band w.val 4 ∧ band w.val 4 ≤ 7) := by decide +kernel

theorem t_impl_may (cu cg mode uid gid want : Int) (k : Bool → Option R) : g_impl_Cred_may N cu cg mode uid gid want k = k (mayB cu cg mode uid gid want) := by
  rw [g_impl_Cred_may_eq]
  unfold gb_impl_Cred_may mayB bitsFor
  by_cases h0 : cu = 0
  · simp [h0]
  · rw [beq_false_of_ne h0]
    by_cases h1 : cu = uid
    · subst h1; simp [h0, bnot, band]
    · rw [beq_false_of_ne h1]
      by_cases h2 : cg = gid
      · subst h2; simp [h0, h1, bnot, band]
      · rw [beq_false_of_ne h2]
        simp [h0, h1, h2, bnot, band]
theorem t_spec_may {cu cg mode uid gid want : Int} (hm : 0 ≤ mode ∧ mode ≤ 511) (hw : 0 ≤ want ∧ want ≤ 7) (k : Bool → Option R) : g_spec_l1May N cu cg mode uid gid want k = k (mayB cu cg mode uid gid want) := by
  rw [g_spec_l1May_eq]
  unfold gb_spec_l1May mayB
  rw [bits_at (bits_range hm) hw]
  unfold bitsFor
  by_cases h0 : cu = 0
  · simp [h0]
  · rw [beq_false_of_ne h0]
    by_cases h1 : cu = uid
    · subst h1; simp [h0, bnot, band]
    · rw [beq_false_of_ne h1]
      by_cases h2 : cg = gid
      · subst h2; simp [h0, h1, bnot, band]
      · rw [beq_false_of_ne h2]
        simp [h0, h1, h2, bnot, band]

/-- What May answers. -/
def mayOk (cu cg mode uid gid want : Int) : Bool := (inR cu 0 99 && inR cg 0 99) && inR mode 0 511 && inR uid 0 99 && inR gid 0 99 && inR want 0 7
def mayIs (cu cg mode uid gid want : Int) : Bool := mayOk cu cg mode uid gid want && mayB cu cg mode uid gid want
theorem t_impl_May (cu cg mode uid gid want : Int) (k : Bool → Bool → Option R) : g_impl_May N cu cg mode uid gid want k = k (mayIs cu cg mode uid gid want) (mayOk cu cg mode uid gid want) := by
  rw [g_impl_May_eq]
  unfold gb_impl_May mayIs mayOk
  simp only [t_impl_GoodCred, t_impl_isMode, t_impl_isId, t_impl_within, t_impl_may]
  cases inR cu 0 99 && inR cg 0 99 <;> cases inR mode 0 511 <;> cases inR uid 0 99 <;> cases inR gid 0 99 <;> cases inR want 0 7 <;> simp
theorem t_spec_May (cu cg mode uid gid want : Int) (k : Bool → Bool → Option R) : g_spec_May N cu cg mode uid gid want k = k (mayIs cu cg mode uid gid want) (mayOk cu cg mode uid gid want) := by
  rw [g_spec_May_eq]
  unfold gb_spec_May mayIs mayOk
  simp only [t_spec_l1Cred, t_spec_l1Mode, t_spec_l1In]
  cases inR cu 0 99 && inR cg 0 99 <;> cases hm : inR mode 0 511 <;> cases inR uid 0 99 <;> cases inR gid 0 99 <;> cases hw : inR want 0 7 <;> simp
  exact t_spec_may N (inR_iff.1 hm) (inR_iff.1 hw) _

theorem t_impl_WithMask (a b : Int) (k : Int → Bool → Option R) : g_impl_WithMask N a b k = k (if inR a 0 511 && inR b 0 511 then bnot a b else 0) (inR a 0 511 && inR b 0 511) := by
  rw [g_impl_WithMask_eq]
  unfold gb_impl_WithMask
  simp only [t_impl_isMode]
  cases inR a 0 511 <;> cases inR b 0 511 <;> simp [bnot]
theorem t_spec_WithMask (a b : Int) (k : Int → Bool → Option R) : g_spec_WithMask N a b k = k (if inR a 0 511 && inR b 0 511 then bnot a b else 0) (inR a 0 511 && inR b 0 511) := by
  rw [g_spec_WithMask_eq]
  unfold gb_spec_WithMask
  simp only [t_spec_l1Mode]
  cases inR a 0 511 <;> cases inR b 0 511 <;> simp [bnot]

theorem bnot_nat {a b : Nat} (ha : a < 9223372036854775808) (hb : b < 9223372036854775808) : bnot a b = ((BitVec.ofNat 64 a &&& ~~~(BitVec.ofNat 64 b)).toNat : Int) := by
  have hle : (BitVec.ofNat 64 a &&& ~~~(BitVec.ofNat 64 b)).toNat ≤ a := by
    rw [BitVec.toNat_and, BitVec.toNat_ofNat, Nat.mod_eq_of_lt (by omega : a < 2 ^ 64)]
    exact Nat.and_le_left
  unfold bnot
  show IntKind.i64.wrap ((BitVec.ofInt 64 (a : Int) &&& ~~~(BitVec.ofInt 64 (b : Int))).toNat : Int) = _
  rw [ofInt_nat, ofInt_nat, wrap_i64 (by omega) (by omega)]

theorem mask_facts {a b : Nat} (ha : a < 512) (hb : b < 512) : (band (bnot a b) b == 0) = true ∧ (bor (bnot a b) a == (a : Int)) = true := by
  have hx := bnot_nat (a := a) (b := b) (by omega) (by omega)
  generalize hu : BitVec.ofNat 64 a = u at hx
  generalize hv : BitVec.ofNat 64 b = v at hx
  have hlt : (u &&& ~~~v).toNat < 2 ^ 64 := (u &&& ~~~v).isLt
  have e : BitVec.ofInt 64 (((u &&& ~~~v).toNat : Nat) : Int) = u &&& ~~~v := by
    rw [ofInt_nat]; exact BitVec.eq_of_toNat_eq (by rw [BitVec.toNat_ofNat]; exact Nat.mod_eq_of_lt hlt)
  rw [hx]
  constructor
  · unfold band
    show (IntKind.i64.wrap ((BitVec.ofInt 64 (((u &&& ~~~v).toNat : Nat) : Int) &&& BitVec.ofInt 64 (b : Int)).toNat : Int) == 0) = true
    rw [e, ofInt_nat, hv]
    have : u &&& ~~~v &&& v = 0#64 := by
      ext i hi; simp
    rw [this]
    rfl
  · unfold bor
    show (IntKind.i64.wrap ((BitVec.ofInt 64 (((u &&& ~~~v).toNat : Nat) : Int) ||| BitVec.ofInt 64 (a : Int)).toNat : Int) == (a : Int)) = true
    rw [e, ofInt_nat, hu]
    have : u &&& ~~~v ||| u = u := by
      ext i hi; simp; intro h _; exact h
    rw [this, ← hu, BitVec.toNat_ofNat, Nat.mod_eq_of_lt (by omega), wrap_i64 (by omega) (by omega)]
    simp

theorem t_big (e1 : List V) (f1 : Fl) (e2 : List V) (f2 : Fl) : ∃ b, ∀ (R : Type) (k : Bool → Option R), g_laws_big N e1 f1 e2 f2 k = k b := by
  by_cases h : decide ((e1.length : Int) > 1048576) = true
  · exact ⟨true, fun R k => by rw [g_laws_big_eq]; unfold gb_laws_big; rw [h]⟩
  · exact ⟨_, fun R k => by rw [g_laws_big_eq]; unfold gb_laws_big; rw [Bool.eq_false_iff.2 h]⟩

theorem t_DrawMay {e : List V} (he : IsBytes e) (f : Fl) : ∃ u v m x y z : Int, ∀ (R : Type) (k : Int → Int → Int → Int → Int → Int → Option R), g_spec_DrawMay N e f k = k u v m x y z := by
  obtain ⟨u, v, a1, s1, y1, y2, y3, y4, p1, p2, p3⟩ := t_cred N he (f.noOwn.noOwn) (at_ := 0) 0 (by omega) (by unfold curMax; omega)
  obtain ⟨m, a2, s2, _, _, q1, q2, q3⟩ := t_mode N he (f.noOwn.noOwn) (at_ := a1) s1 (by omega) (by unfold curMax; omega)
  obtain ⟨x, a3, s3, _, _, r1, r2, r3⟩ := t_pick N he (f.noOwn.noOwn) (at_ := a2) s2 3 (by omega) (by unfold curMax; omega)
  obtain ⟨y, a4, s4, _, _, t1, t2, t3⟩ := t_pick N he (f.noOwn.noOwn) (at_ := a3) s3 3 (by omega) (by unfold curMax; omega)
  obtain ⟨z, a5, s5, _, _, v1, v2, v3⟩ := t_pick N he (f.noOwn.noOwn) (at_ := a4) s4 8 (by omega) (by unfold curMax; omega)
  obtain ⟨w, a6, s6, _, _, w1, w2, w3⟩ := t_pick N he (f.noOwn.noOwn) (at_ := a5) s5 30 (by omega) (by unfold curMax; omega)
  refine ⟨u, v, m, x, y, IntKind.i64.wrap (z + IntKind.i64.wrap (Int.tdiv w 29)), fun R k => ?_⟩
  rw [g_spec_DrawMay_eq]
  unfold gb_spec_DrawMay
  rw [p3, q3, r3, t3, v3, w3]

theorem t_DrawWithMask {e : List V} (he : IsBytes e) (f : Fl) : ∃ u v : Int, ∀ (R : Type) (k : Int → Int → Option R), g_spec_DrawWithMask N e f k = k u v := by
  obtain ⟨m, a2, s2, _, _, q1, q2, q3⟩ := t_mode N he (f.noOwn.noOwn) (at_ := 0) 0 (by omega) (by unfold curMax; omega)
  obtain ⟨u, a3, s3, _, _, r1, r2, r3⟩ := t_mode N he (f.noOwn.noOwn) (at_ := a2) s2 (by omega) (by unfold curMax; omega)
  obtain ⟨w, a6, s6, _, _, w1, w2, w3⟩ := t_pick N he (f.noOwn.noOwn) (at_ := a3) s3 20 (by omega) (by unfold curMax; omega)
  refine ⟨m, IntKind.i64.wrap (u + IntKind.i64.wrap (IntKind.i64.wrap (Int.tdiv w 19) * 512)), fun R k => ?_⟩
  rw [g_spec_DrawWithMask_eq]
  unfold gb_spec_DrawWithMask
  rw [q3, r3, w3]

theorem t_DrawGoodCred {e : List V} (he : IsBytes e) (f : Fl) : ∃ u v : Int, ∀ (R : Type) (k : Int → Int → Option R), g_spec_DrawGoodCred N e f k = k u v := by
  obtain ⟨u, v, a1, s1, y1, y2, y3, y4, p1, p2, p3⟩ := t_cred N he (f.noOwn.noOwn) (at_ := 0) 0 (by omega) (by unfold curMax; omega)
  refine ⟨u, v, fun R k => ?_⟩
  rw [g_spec_DrawGoodCred_eq]
  unfold gb_spec_DrawGoodCred
  rw [p3]

theorem mask_ok {m x : Int} (h : (inR m 0 511 && inR x 0 511) = true) : (band (bnot m x) x == 0) = true ∧ (bor (bnot m x) m == m) = true := by
  rw [Bool.and_eq_true, inR_iff, inR_iff] at h
  obtain ⟨a, rfl⟩ := Int.eq_ofNat_of_zero_le h.1.1
  obtain ⟨b, rfl⟩ := Int.eq_ofNat_of_zero_le h.2.1
  exact mask_facts (by omega) (by omega)

/-- The three parts of what is wanted. -/
theorem parts_ok {cu cg mode uid gid want : Int} (h : mayOk cu cg mode uid gid want = true) :
    (mayOk cu cg mode uid gid (band want 1) = true ∧ mayOk cu cg mode uid gid (band want 2) = true ∧ mayOk cu cg mode uid gid (band want 4) = true) ∧
    (mayIs cu cg mode uid gid (band want 1) && (mayIs cu cg mode uid gid (band want 2) && mayIs cu cg mode uid gid (band want 4))) = mayIs cu cg mode uid gid want := by
  have h' := h
  unfold mayOk at h'
  simp only [Bool.and_eq_true] at h'
  obtain ⟨⟨⟨⟨hc, hm⟩, hu⟩, hg⟩, hw⟩ := h'
  have hw' := inR_iff.1 hw
  obtain ⟨n, rfl⟩ := Int.eq_ofNat_of_zero_le hw'.1
  have hr := parts_range ⟨n, by omega⟩
  have ok : ∀ x : Int, 0 ≤ x ∧ x ≤ 7 → mayOk cu cg mode uid gid x = true := fun x hx => by
    unfold mayOk; simp [hc, hm, hu, hg, inR_iff.2 hx]
  have o1 := ok _ hr.1
  have o2 := ok _ hr.2.1
  have o4 := ok _ hr.2.2
  refine ⟨⟨o1, o2, o4⟩, ?_⟩
  have hb := bits_range (cu := cu) (cg := cg) (uid := uid) (gid := gid) (inR_iff.1 hm)
  obtain ⟨b, hbe⟩ := Int.eq_ofNat_of_zero_le hb.1
  have hf := parts_fact ⟨b, by omega⟩ ⟨n, by omega⟩
  simp only at hf o1 o2 o4
  unfold mayIs
  rw [o1, o2, o4, h]
  unfold mayB
  rw [hbe]
  cases decide (cu = 0) with
  | true => simp
  | false => simp only [Bool.false_or, Bool.true_and]; rw [← hf, Bool.and_assoc]

theorem may_loop (e : List V) (f : Fl) (u v m x y z : Int) (b0 : Bool) (k0 k1 : Bool → Option R) (o1 : mayOk u v m x y (band z 1) = true) (o2 : mayOk u v m x y (band z 2) = true) (o4 : mayOk u v m x y (band z 4) = true) :
    l_laws_FnMay_0 N e f m x y z b0 [.int .i64 1, .int .i64 2, .int .i64 4] u v k0 k1 4 true 0 = k1 (mayIs u v m x y (band z 1) && (mayIs u v m x y (band z 2) && mayIs u v m x y (band z 4))) := by
  have round : ∀ (n : Nat) (b : Bool) (i bit : Int), 0 ≤ i → i < 3 → nth [V.int .i64 1, .int .i64 2, .int .i64 4] i.toNat = some (.int .i64 bit) → mayOk u v m x y (band z bit) = true →
      l_laws_FnMay_0 N e f m x y z b0 [.int .i64 1, .int .i64 2, .int .i64 4] u v k0 k1 (n + 1) b i = l_laws_FnMay_0 N e f m x y z b0 [.int .i64 1, .int .i64 2, .int .i64 4] u v k0 k1 n (b && mayIs u v m x y (band z bit)) (i + 1) := by
    intro n b i bit h0 h3 hn hok
    have e : IntKind.i64.wrap (BitVec.ofInt IntKind.i64.bits z &&& BitVec.ofInt IntKind.i64.bits bit).toNat = band z bit := rfl
    show l_laws_FnMay_0_step N _ f m x y z b0 _ u v _ b i k0 k1 = _
    unfold l_laws_FnMay_0_step
    rw [decide_eq_true h3]
    simp only [if_pos h0, hn, must, asInt, if_true, t_impl_May, e, hok, Bool.not_true]
    rw [wrap_i64 (x := i + 1) (by omega) (by omega)]
    cases b <;> rfl
  rw [round 3 true 0 1 (by omega) (by omega) rfl o1, round 2 _ (0 + 1) 2 (by omega) (by omega) rfl o2, round 1 _ (0 + 1 + 1) 4 (by omega) (by omega) rfl o4]
  show l_laws_FnMay_0_step N _ f m x y z b0 _ u v _ _ _ k0 k1 = _
  unfold l_laws_FnMay_0_step
  rw [decide_eq_false (by omega)]
  simp only [Bool.true_and, Bool.and_assoc]

/-- The law answers true. -/
theorem law_FnMay {e1 e2 : List V} (h1 : IsBytes e1) (h2 : IsBytes e2) (f1 f2 : Fl) (k : Bool → Option R) : gb_laws_FnMay 4 e1 f1 e2 f2 k = k true := by
  obtain ⟨b, hb⟩ := t_big 4 e1 f1.noOwn.noOwn e2 f2.noOwn.noOwn
  obtain ⟨u, v, m, x, y, z, hd⟩ := t_DrawMay 4 h1 f1.noOwn.noOwn
  obtain ⟨m2, x2, hd2⟩ := t_DrawWithMask 4 h2 f2.noOwn.noOwn
  obtain ⟨u3, v3, hd3⟩ := t_DrawGoodCred 4 h2 f2.noOwn.noOwn
  unfold gb_laws_FnMay
  rw [hb]
  cases b with
  | true => rfl
  | false =>
    simp only [hd, t_impl_May, t_spec_May, beq_self_eq_true, Bool.not_true, t_impl_GoodCred, t_spec_GoodCred, hd2, hd3, t_impl_WithMask, t_spec_WithMask]
    have tail : ∀ (w : Bool), (inR m2 0 511 && inR x2 0 511) = w → (match !w with
        | true => k true
        | false => match IntKind.i64.wrap (BitVec.ofInt IntKind.i64.bits (if w = true then bnot m2 x2 else 0) &&& BitVec.ofInt IntKind.i64.bits x2).toNat == 0 with
          | true => match IntKind.i64.wrap (BitVec.ofInt IntKind.i64.bits (if w = true then bnot m2 x2 else 0) ||| BitVec.ofInt IntKind.i64.bits m2).toNat == m2 with
            | true => k true
            | false => k false
          | false => k false) = k true := by
      intro w hw
      cases w with
      | false => rfl
      | true =>
        obtain ⟨q1, q2⟩ := mask_ok hw
        unfold band at q1
        unfold bor at q2
        simp only [Bool.not_true, if_true]
        rw [q1]
        simp only
        rw [q2]
    have tl := tail _ rfl
    cases hok : mayOk u v m x y z with
    | false => simp only; exact tl
    | true =>
      obtain ⟨⟨o1, o2, o4⟩, hall⟩ := parts_ok hok
      rw [may_loop 4 e2 f2 u v m x y z _ _ _ o1 o2 o4]
      rw [hall]
      simp only [beq_self_eq_true, Bool.not_true]
      by_cases hu0 : u = 0
      · have hi : mayIs u v m x y z = true := by
          unfold mayIs mayB; rw [hok]; simp [hu0]
        rw [beq_iff_eq.2 hu0, hi]
        simp only [Bool.not_true]
        exact tl
      · rw [beq_false_of_ne hu0]
        simp only
        exact tl

end Go.VM.VL
