/- Values and objects that are read by their form. -/
import Derived.Test.YteekbhpdalbofaaGreatDoorVmY
set_option linter.unusedSimpArgs false
set_option linter.unusedVariables false
namespace Go.VM
open Go.RowKit Go.Lib
section
variable {R : Type}
def isN (a b : Nat) (K : Option R) : Option R :=
 match Nat.beq a b with
 | true => K
 | false => none
def Zn5 (e : TypeId) (f : Fl) (K : Option R) : Option R :=
 match f with
 | .own e' => isN e' e K
 | _ => none
def ZKA (f : Fl) (K : Option R) : Option R :=
 match f with
 | .sh => K
 | _ => none
def ZiG (v : V) (K : Nat → Nat → Nat → Nat → Option R) : Option R :=
 match v with
 | .arr o ver off len => K o ver off len
 | _ => none
def ZFm (v : V) (K : Nat → Nat → Nat → Nat → Option R) : Option R :=
 match v with
 | .ptr o ver i j => K o ver i j
 | _ => none
def ZBi (g : FuncId) (v : V) (K : List V → Option R) : Option R :=
 match v with
 | .fn g' caps => isN g' g (K caps)
 | _ => none
def Zd4 (s : S) (K : Ob → S → Option R) : Option R :=
 match s with
 | some ob :: s => K ob s
 | _ => none
def ZaF (s : S) (K : Option R) : Option R :=
 match s with
 | [] => K
 | _ => none
def ZdP (ob : Ob) (esz : Nat) (elem : TypeId) (K : List V → Nat → Option R) : Option R :=
 isN ob.esz esz (isN ob.elem elem (K ob.es ob.ver))
variable {r : R}
theorem Zas {a b : Nat} {K : Option R} (h : isN a b K = some r) : a = b ∧ K = some r := by
 unfold isN at h
 split at h <;> first | (cases h; done) | skip
 rename_i hh
 exact ⟨Nat.eq_of_beq_eq_true hh, h⟩
theorem ZcQ {e : TypeId} {f : Fl} {K : Option R} (h : Zn5 e f K = some r) : f = .own e ∧ K = some r := by
 unfold Zn5 at h
 split at h <;> first | (cases h; done) | skip
 have h2 := Zas h
 exact ⟨by rw [h2.1], h2.2⟩
theorem Ze5 {f : Fl} {K : Option R} (h : ZKA f K = some r) : f = .sh ∧ K = some r := by
 unfold ZKA at h
 split at h <;> first | (cases h; done) | exact ⟨rfl, h⟩
theorem Zb5 {v : V} {K : Nat → Nat → Nat → Nat → Option R} (h : ZiG v K = some r) : ∃ o ver off len, v = .arr o ver off len ∧ K o ver off len = some r := by
 unfold ZiG at h
 split at h <;> first | (cases h; done) | exact ⟨_, _, _, _, rfl, h⟩
theorem ZiU {v : V} {K : Nat → Nat → Nat → Nat → Option R} (h : ZFm v K = some r) : ∃ o ver i j, v = .ptr o ver i j ∧ K o ver i j = some r := by
 unfold ZFm at h
 split at h <;> first | (cases h; done) | exact ⟨_, _, _, _, rfl, h⟩
theorem Zcx {g : FuncId} {v : V} {K : List V → Option R} (h : ZBi g v K = some r) : ∃ caps, v = .fn g caps ∧ K caps = some r := by
 unfold ZBi at h
 split at h <;> first | (cases h; done) | skip
 have h2 := Zas h
 exact ⟨_, by rw [h2.1], h2.2⟩
theorem ZaN {s : S} {K : Ob → S → Option R} (h : Zd4 s K = some r) : ∃ ob s', s = some ob :: s' ∧ K ob s' = some r := by
 unfold Zd4 at h
 split at h <;> first | (cases h; done) | exact ⟨_, _, rfl, h⟩
theorem Zae {s : S} {K : Option R} (h : ZaF s K = some r) : s = [] ∧ K = some r := by
 unfold ZaF at h
 split at h <;> first | (cases h; done) | exact ⟨rfl, h⟩
theorem ZaK {ob : Ob} {esz : Nat} {elem : TypeId} {K : List V → Nat → Option R} (h : ZdP ob esz elem K = some r) : ∃ es ver, ob = ⟨es, esz, elem, ver⟩ ∧ K es ver = some r := by
 unfold ZdP at h
 obtain ⟨h1, h3⟩ := Zas h
 obtain ⟨h2, h4⟩ := Zas h3
 obtain ⟨es, a, b, ver⟩ := ob
 simp only at h1 h2
 subst h1 h2
 exact ⟨_, _, rfl, h4⟩
end
theorem Za1.add {P : Program} {C : Cfg} {Λ : Zaw} {b : Code} {q p : List Nat} {f : (R : Type) → List V → S → (X → List V → S → Option R) → Option R} (h : Za1 P C Λ b q) (hq : Zo9 q p = false) : Za1 P C (Λ.add p f) b q := by
 intro R E s K r hr
 unfold Zaw.add at hr
 rw [hq] at hr
 exact h R E s K r hr
theorem ZkK : ∀ p : List Nat, Zo9 p p = true
 | [] => rfl
 | a :: l => by simp only [Zo9, Nat.beq_refl, ZkK l]
theorem Zaw.add_self {Λ : Zaw} {p : List Nat} {f : (R : Type) → List V → S → (X → List V → S → Option R) → Option R} {R : Type} {E : List V} {s : S} {K : X → List V → S → Option R} : (Λ.add p f) R p E s K = f R E s K := by
 unfold Zaw.add
 rw [ZkK]
def ZaZ (n : Nat) (keep : List Nat) (E : List V) : Bool := Nat.beq E.length n && ZfK keep 0 E
theorem ZaP {slots : List (Nat × V)} {keep : List Nat} {E : List V} {n : Nat} (h : ZaZ n keep E = true) (hk : slots.map (·.1) = keep) (hs : ∀ j v, (j, v) ∈ slots → nth E j = some v) : E = mkF 0 n slots := by
 unfold ZaZ at h
 rw [Bool.and_eq_true] at h
 exact ZHm (Nat.eq_of_beq_eq_true h.1) (by rw [hk]; exact h.2) hs
theorem ZaG {E : List V} : ∀ j v, (j, v) ∈ ([] : List (Nat × V)) → nth E j = some v := fun j v h => by cases h
theorem Zab {E : List V} {k : Nat} {u : V} {l : List (Nat × V)} (h : nth E k = some u) (hl : ∀ j v, (j, v) ∈ l → nth E j = some v) : ∀ j v, (j, v) ∈ (k, u) :: l → nth E j = some v := fun j v hm => by
 rcases List.mem_cons.1 hm with he | hm
 ·injection he with h1 h2
  subst h1 h2
  exact h
 ·exact hl j v hm
end Go.VM
