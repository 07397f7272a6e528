/- Values and objects that are read by their form. -/
import Derived.Test.YtjbalmhcpkehnaaVmY
set_option linter.unusedSimpArgs false
set_option linter.unusedVariables false
namespace Go.VM
open Go.RowKit Go.Lib
section
variable {R : Type}
def isI (k : IntKind) (n : Int) (v : V) (K : Option R) : Option R :=
 match v with
 | .int k' m => if k' = k ∧ m = n then K else none
 | _ => none
def isN (a b : Nat) (K : Option R) : Option R :=
 match Nat.beq a b with
 | true => K
 | false => none
def ZgV (v : V) (K : Nat → Nat → Nat → Nat → Option R) : Option R :=
 match v with
 | .ptr o ver i j => K o ver i j
 | _ => none
def Zsa (s : S) (K : Ob → S → Option R) : Option R :=
 match s with
 | some ob :: s => K ob s
 | _ => none
def Zba (s : S) (K : Option R) : Option R :=
 match s with
 | [] => K
 | _ => none
def ZnX (ob : Ob) (esz : Nat) (elem : TypeId) (K : List V → Nat → Option R) : Option R :=
 isN ob.esz esz (isN ob.elem elem (K ob.es ob.ver))
variable {r : R}
theorem Zo8 {k : IntKind} {n : Int} {v : V} {K : Option R} (h : isI k n v K = some r) : v = .int k n ∧ K = some r := by
 unfold isI at h
 split at h <;> first | (cases h; done) | skip
 split at h <;> first | (cases h; done) | skip
 rename_i hh
 obtain ⟨rfl, rfl⟩ := hh
 exact ⟨rfl, h⟩
theorem ZaD {a b : Nat} {K : Option R} (h : isN a b K = some r) : a = b ∧ K = some r := by
 unfold isN at h
 split at h <;> first | (cases h; done) | skip
 rename_i hh
 exact ⟨Nat.eq_of_beq_eq_true hh, h⟩
theorem ZbN {v : V} {K : Nat → Nat → Nat → Nat → Option R} (h : ZgV v K = some r) : ∃ o ver i j, v = .ptr o ver i j ∧ K o ver i j = some r := by
 unfold ZgV at h
 split at h <;> first | (cases h; done) | exact ⟨_, _, _, _, rfl, h⟩
theorem ZhU {s : S} {K : Ob → S → Option R} (h : Zsa s K = some r) : ∃ ob s', s = some ob :: s' ∧ K ob s' = some r := by
 unfold Zsa at h
 split at h <;> first | (cases h; done) | exact ⟨_, _, rfl, h⟩
theorem Zak {s : S} {K : Option R} (h : Zba s K = some r) : s = [] ∧ K = some r := by
 unfold Zba at h
 split at h <;> first | (cases h; done) | exact ⟨rfl, h⟩
theorem ZbG {ob : Ob} {esz : Nat} {elem : TypeId} {K : List V → Nat → Option R} (h : ZnX ob esz elem K = some r) : ∃ es ver, ob = ⟨es, esz, elem, ver⟩ ∧ K es ver = some r := by
 unfold ZnX at h
 obtain ⟨h1, h3⟩ := ZaD h
 obtain ⟨h2, h4⟩ := ZaD h3
 obtain ⟨es, a, b, ver⟩ := ob
 simp only at h1 h2
 subst h1 h2
 exact ⟨_, _, rfl, h4⟩
end
theorem ZbF.add {P : Program} {C : Cfg} {Λ : ZaI} {b : Code} {q p : List Nat} {f : (R : Type) → List V → S → (X → List V → S → Option R) → Option R} (h : ZbF P C Λ b q) (hq : ZiF q p = false) : ZbF P C (Λ.add p f) b q := by
 intro R E s K r hr
 unfold ZaI.add at hr
 rw [hq] at hr
 exact h R E s K r hr
theorem Ze9 : ∀ p : List Nat, ZiF p p = true
 | [] => rfl
 | a :: l => by simp only [ZiF, Nat.beq_refl, Ze9 l]
theorem ZaI.add_self {Λ : ZaI} {p : List Nat} {f : (R : Type) → List V → S → (X → List V → S → Option R) → Option R} {R : Type} {E : List V} {s : S} {K : X → List V → S → Option R} : (Λ.add p f) R p E s K = f R E s K := by
 unfold ZaI.add
 rw [Ze9]
def ZbE (n : Nat) (keep : List Nat) (E : List V) : Bool := Nat.beq E.length n && Zc9 keep 0 E
theorem Zby {slots : List (Nat × V)} {keep : List Nat} {E : List V} {n : Nat} (h : ZbE n keep E = true) (hk : slots.map (·.1) = keep) (hs : ∀ j v, (j, v) ∈ slots → nth E j = some v) : E = mkF 0 n slots := by
 unfold ZbE at h
 rw [Bool.and_eq_true] at h
 exact ZoI (Nat.eq_of_beq_eq_true h.1) (by rw [hk]; exact h.2) hs
theorem Zbk {E : List V} : ∀ j v, (j, v) ∈ ([] : List (Nat × V)) → nth E j = some v := fun j v h => by cases h
theorem Zaj {E : List V} {k : Nat} {u : V} {l : List (Nat × V)} (h : nth E k = some u) (hl : ∀ j v, (j, v) ∈ l → nth E j = some v) : ∀ j v, (j, v) ∈ (k, u) :: l → nth E j = some v := fun j v hm => by
 rcases List.mem_cons.1 hm with he | hm
 ·injection he with h1 h2
  subst h1 h2
  exact h
 ·exact hl j v hm
end Go.VM
