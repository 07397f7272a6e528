/- Values and objects that are read by their form. -/
import Derived.Test.YteekbhpdalbofaaGreatDoorVmY
set_option linter.unusedSimpArgs false
set_option linter.unusedVariables false
namespace Go.VM
open Go.RowKit Go.Lib
section
variable {R : Type}
def isN (a b : Nat) (K : Option R) : Option R :=
 match Nat.beq a b with
 | true => K
 | false => none
def ZqJ (e : TypeId) (f : Fl) (K : Option R) : Option R :=
 match f with
 | .own e' => isN e' e K
 | _ => none
def ZHn (f : Fl) (K : Option R) : Option R :=
 match f with
 | .sh => K
 | _ => none
def Ziq (v : V) (K : Nat → Nat → Nat → Nat → Option R) : Option R :=
 match v with
 | .arr o ver off len => K o ver off len
 | _ => none
def ZIn (v : V) (K : Nat → Nat → Nat → Nat → Option R) : Option R :=
 match v with
 | .ptr o ver i j => K o ver i j
 | _ => none
def Zzm (g : FuncId) (v : V) (K : List V → Option R) : Option R :=
 match v with
 | .fn g' caps => isN g' g (K caps)
 | _ => none
def ZdV (s : S) (K : Ob → S → Option R) : Option R :=
 match s with
 | some ob :: s => K ob s
 | _ => none
def ZaI (s : S) (K : Option R) : Option R :=
 match s with
 | [] => K
 | _ => none
def ZdU (ob : Ob) (esz : Nat) (elem : TypeId) (K : List V → Nat → Option R) : Option R :=
 isN ob.esz esz (isN ob.elem elem (K ob.es ob.ver))
variable {r : R}
theorem Zat {a b : Nat} {K : Option R} (h : isN a b K = some r) : a = b ∧ K = some r := by
 unfold isN at h
 split at h <;> first | (cases h; done) | skip
 rename_i hh
 exact ⟨Nat.eq_of_beq_eq_true hh, h⟩
theorem ZdH {e : TypeId} {f : Fl} {K : Option R} (h : ZqJ e f K = some r) : f = .own e ∧ K = some r := by
 unfold ZqJ at h
 split at h <;> first | (cases h; done) | skip
 have h2 := Zat h
 exact ⟨by rw [h2.1], h2.2⟩
theorem Zff {f : Fl} {K : Option R} (h : ZHn f K = some r) : f = .sh ∧ K = some r := by
 unfold ZHn at h
 split at h <;> first | (cases h; done) | exact ⟨rfl, h⟩
theorem Zb3 {v : V} {K : Nat → Nat → Nat → Nat → Option R} (h : Ziq v K = some r) : ∃ o ver off len, v = .arr o ver off len ∧ K o ver off len = some r := by
 unfold Ziq at h
 split at h <;> first | (cases h; done) | exact ⟨_, _, _, _, rfl, h⟩
theorem ZxK {v : V} {K : Nat → Nat → Nat → Nat → Option R} (h : ZIn v K = some r) : ∃ o ver i j, v = .ptr o ver i j ∧ K o ver i j = some r := by
 unfold ZIn at h
 split at h <;> first | (cases h; done) | exact ⟨_, _, _, _, rfl, h⟩
theorem Zco {g : FuncId} {v : V} {K : List V → Option R} (h : Zzm g v K = some r) : ∃ caps, v = .fn g caps ∧ K caps = some r := by
 unfold Zzm at h
 split at h <;> first | (cases h; done) | skip
 have h2 := Zat h
 exact ⟨_, by rw [h2.1], h2.2⟩
theorem ZaN {s : S} {K : Ob → S → Option R} (h : ZdV s K = some r) : ∃ ob s', s = some ob :: s' ∧ K ob s' = some r := by
 unfold ZdV at h
 split at h <;> first | (cases h; done) | exact ⟨_, _, rfl, h⟩
theorem Zae {s : S} {K : Option R} (h : ZaI s K = some r) : s = [] ∧ K = some r := by
 unfold ZaI at h
 split at h <;> first | (cases h; done) | exact ⟨rfl, h⟩
theorem ZaM {ob : Ob} {esz : Nat} {elem : TypeId} {K : List V → Nat → Option R} (h : ZdU ob esz elem K = some r) : ∃ es ver, ob = ⟨es, esz, elem, ver⟩ ∧ K es ver = some r := by
 unfold ZdU at h
 obtain ⟨h1, h3⟩ := Zat h
 obtain ⟨h2, h4⟩ := Zat h3
 obtain ⟨es, a, b, ver⟩ := ob
 simp only at h1 h2
 subst h1 h2
 exact ⟨_, _, rfl, h4⟩
end
theorem Za6.add {P : Program} {C : Cfg} {Λ : ZaA} {b : Code} {q p : List Nat} {f : (R : Type) → List V → S → (X → List V → S → Option R) → Option R} (h : Za6 P C Λ b q) (hq : ZnX q p = false) : Za6 P C (Λ.add p f) b q := by
 intro R E s K r hr
 unfold ZaA.add at hr
 rw [hq] at hr
 exact h R E s K r hr
theorem Zkf : ∀ p : List Nat, ZnX p p = true
 | [] => rfl
 | a :: l => by simp only [ZnX, Nat.beq_refl, Zkf l]
theorem ZaA.add_self {Λ : ZaA} {p : List Nat} {f : (R : Type) → List V → S → (X → List V → S → Option R) → Option R} {R : Type} {E : List V} {s : S} {K : X → List V → S → Option R} : (Λ.add p f) R p E s K = f R E s K := by
 unfold ZaA.add
 rw [Zkf]
def Za1 (n : Nat) (keep : List Nat) (E : List V) : Bool := Nat.beq E.length n && Zfq keep 0 E
theorem ZaP {slots : List (Nat × V)} {keep : List Nat} {E : List V} {n : Nat} (h : Za1 n keep E = true) (hk : slots.map (·.1) = keep) (hs : ∀ j v, (j, v) ∈ slots → nth E j = some v) : E = mkF 0 n slots := by
 unfold Za1 at h
 rw [Bool.and_eq_true] at h
 exact ZEW (Nat.eq_of_beq_eq_true h.1) (by rw [hk]; exact h.2) hs
theorem ZaG {E : List V} : ∀ j v, (j, v) ∈ ([] : List (Nat × V)) → nth E j = some v := fun j v h => by cases h
theorem Zab {E : List V} {k : Nat} {u : V} {l : List (Nat × V)} (h : nth E k = some u) (hl : ∀ j v, (j, v) ∈ l → nth E j = some v) : ∀ j v, (j, v) ∈ (k, u) :: l → nth E j = some v := fun j v hm => by
 rcases List.mem_cons.1 hm with he | hm
 ·injection he with h1 h2
  subst h1 h2
  exact h
 ·exact hl j v hm
end Go.VM
