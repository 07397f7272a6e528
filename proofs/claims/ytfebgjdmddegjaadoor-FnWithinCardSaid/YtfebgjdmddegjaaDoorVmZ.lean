/- Values and objects that are read by their form. -/
import Derived.Test.YtfebgjdmddegjaaDoorVmY
set_option linter.unusedSimpArgs false
set_option linter.unusedVariables false
namespace Go.VM
open Go.RowKit Go.Lib
section
variable {R : Type}
def isN (a b : Nat) (K : Option R) : Option R :=
 match Nat.beq a b with
 | true => K
 | false => none
def ZqA (e : TypeId) (f : Fl) (K : Option R) : Option R :=
 match f with
 | .own e' => isN e' e K
 | _ => none
def Zxm (f : Fl) (K : Option R) : Option R :=
 match f with
 | .sh => K
 | _ => none
def Zm5 (v : V) (K : Nat → Nat → Nat → Nat → Option R) : Option R :=
 match v with
 | .arr o ver off len => K o ver off len
 | _ => none
def ZkK (v : V) (K : Nat → Nat → Nat → Nat → Option R) : Option R :=
 match v with
 | .ptr o ver i j => K o ver i j
 | _ => none
def Zre (g : FuncId) (v : V) (K : List V → Option R) : Option R :=
 match v with
 | .fn g' caps => isN g' g (K caps)
 | _ => none
def ZuA (s : S) (K : Ob → S → Option R) : Option R :=
 match s with
 | some ob :: s => K ob s
 | _ => none
def ZaR (s : S) (K : Option R) : Option R :=
 match s with
 | [] => K
 | _ => none
def ZnR (ob : Ob) (esz : Nat) (elem : TypeId) (K : List V → Nat → Option R) : Option R :=
 isN ob.esz esz (isN ob.elem elem (K ob.es ob.ver))
variable {r : R}
theorem Zaw {a b : Nat} {K : Option R} (h : isN a b K = some r) : a = b ∧ K = some r := by
 unfold isN at h
 split at h <;> first | (cases h; done) | skip
 rename_i hh
 exact ⟨Nat.eq_of_beq_eq_true hh, h⟩
theorem Zee {e : TypeId} {f : Fl} {K : Option R} (h : ZqA e f K = some r) : f = .own e ∧ K = some r := by
 unfold ZqA at h
 split at h <;> first | (cases h; done) | skip
 have h2 := Zaw h
 exact ⟨by rw [h2.1], h2.2⟩
theorem Zfh {f : Fl} {K : Option R} (h : Zxm f K = some r) : f = .sh ∧ K = some r := by
 unfold Zxm at h
 split at h <;> first | (cases h; done) | exact ⟨rfl, h⟩
theorem Zds {v : V} {K : Nat → Nat → Nat → Nat → Option R} (h : Zm5 v K = some r) : ∃ o ver off len, v = .arr o ver off len ∧ K o ver off len = some r := by
 unfold Zm5 at h
 split at h <;> first | (cases h; done) | exact ⟨_, _, _, _, rfl, h⟩
theorem ZcY {v : V} {K : Nat → Nat → Nat → Nat → Option R} (h : ZkK v K = some r) : ∃ o ver i j, v = .ptr o ver i j ∧ K o ver i j = some r := by
 unfold ZkK at h
 split at h <;> first | (cases h; done) | exact ⟨_, _, _, _, rfl, h⟩
theorem Zce {g : FuncId} {v : V} {K : List V → Option R} (h : Zre g v K = some r) : ∃ caps, v = .fn g caps ∧ K caps = some r := by
 unfold Zre at h
 split at h <;> first | (cases h; done) | skip
 have h2 := Zaw h
 exact ⟨_, by rw [h2.1], h2.2⟩
theorem Zc7 {s : S} {K : Ob → S → Option R} (h : ZuA s K = some r) : ∃ ob s', s = some ob :: s' ∧ K ob s' = some r := by
 unfold ZuA at h
 split at h <;> first | (cases h; done) | exact ⟨_, _, rfl, h⟩
theorem Zaf {s : S} {K : Option R} (h : ZaR s K = some r) : s = [] ∧ K = some r := by
 unfold ZaR at h
 split at h <;> first | (cases h; done) | exact ⟨rfl, h⟩
theorem ZbR {ob : Ob} {esz : Nat} {elem : TypeId} {K : List V → Nat → Option R} (h : ZnR ob esz elem K = some r) : ∃ es ver, ob = ⟨es, esz, elem, ver⟩ ∧ K es ver = some r := by
 unfold ZnR at h
 obtain ⟨h1, h3⟩ := Zaw h
 obtain ⟨h2, h4⟩ := Zaw h3
 obtain ⟨es, a, b, ver⟩ := ob
 simp only at h1 h2
 subst h1 h2
 exact ⟨_, _, rfl, h4⟩
end
theorem Zb0.add {P : Program} {C : Cfg} {Λ : ZaL} {b : Code} {q p : List Nat} {f : (R : Type) → List V → S → (X → List V → S → Option R) → Option R} (h : Zb0 P C Λ b q) (hq : Zkl q p = false) : Zb0 P C (Λ.add p f) b q := by
 intro R E s K r hr
 unfold ZaL.add at hr
 rw [hq] at hr
 exact h R E s K r hr
theorem Zg9 : ∀ p : List Nat, Zkl p p = true
 | [] => rfl
 | a :: l => by simp only [Zkl, Nat.beq_refl, Zg9 l]
theorem ZaL.add_self {Λ : ZaL} {p : List Nat} {f : (R : Type) → List V → S → (X → List V → S → Option R) → Option R} {R : Type} {E : List V} {s : S} {K : X → List V → S → Option R} : (Λ.add p f) R p E s K = f R E s K := by
 unfold ZaL.add
 rw [Zg9]
def ZbO (n : Nat) (keep : List Nat) (E : List V) : Bool := Nat.beq E.length n && Zeb keep 0 E
theorem Zbz {slots : List (Nat × V)} {keep : List Nat} {E : List V} {n : Nat} (h : ZbO n keep E = true) (hk : slots.map (·.1) = keep) (hs : ∀ j v, (j, v) ∈ slots → nth E j = some v) : E = mkF 0 n slots := by
 unfold ZbO at h
 rw [Bool.and_eq_true] at h
 exact ZvA (Nat.eq_of_beq_eq_true h.1) (by rw [hk]; exact h.2) hs
theorem Zbm {E : List V} : ∀ j v, (j, v) ∈ ([] : List (Nat × V)) → nth E j = some v := fun j v h => by cases h
theorem Zai {E : List V} {k : Nat} {u : V} {l : List (Nat × V)} (h : nth E k = some u) (hl : ∀ j v, (j, v) ∈ l → nth E j = some v) : ∀ j v, (j, v) ∈ (k, u) :: l → nth E j = some v := fun j v hm => by
 rcases List.mem_cons.1 hm with he | hm
 ·injection he with h1 h2
  subst h1 h2
  exact h
 ·exact hl j v hm
end Go.VM
