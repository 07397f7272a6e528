/- Values and objects that are read by their form. -/
import Derived.Test.YtfebgjdmddegjaaDoorVmY
set_option linter.unusedSimpArgs false
set_option linter.unusedVariables false
namespace Go.VM
open Go.RowKit Go.Lib
section
variable {R : Type}
def isN (a b : Nat) (K : Option R) : Option R :=
 match Nat.beq a b with
 | true => K
 | false => none
def Zli (e : TypeId) (f : Fl) (K : Option R) : Option R :=
 match f with
 | .own e' => isN e' e K
 | _ => none
def ZAD (f : Fl) (K : Option R) : Option R :=
 match f with
 | .sh => K
 | _ => none
def Zop (v : V) (K : Nat → Nat → Nat → Nat → Option R) : Option R :=
 match v with
 | .arr o ver off len => K o ver off len
 | _ => none
def ZjR (v : V) (K : Nat → Nat → Nat → Nat → Option R) : Option R :=
 match v with
 | .ptr o ver i j => K o ver i j
 | _ => none
def ZnN (g : FuncId) (v : V) (K : List V → Option R) : Option R :=
 match v with
 | .fn g' caps => isN g' g (K caps)
 | _ => none
def ZuJ (s : S) (K : Ob → S → Option R) : Option R :=
 match s with
 | some ob :: s => K ob s
 | _ => none
def ZaP (s : S) (K : Option R) : Option R :=
 match s with
 | [] => K
 | _ => none
def Zkn (ob : Ob) (esz : Nat) (elem : TypeId) (K : List V → Nat → Option R) : Option R :=
 isN ob.esz esz (isN ob.elem elem (K ob.es ob.ver))
variable {r : R}
theorem Zaw {a b : Nat} {K : Option R} (h : isN a b K = some r) : a = b ∧ K = some r := by
 unfold isN at h
 split at h <;> first | (cases h; done) | skip
 rename_i hh
 exact ⟨Nat.eq_of_beq_eq_true hh, h⟩
theorem Zc4 {e : TypeId} {f : Fl} {K : Option R} (h : Zli e f K = some r) : f = .own e ∧ K = some r := by
 unfold Zli at h
 split at h <;> first | (cases h; done) | skip
 have h2 := Zaw h
 exact ⟨by rw [h2.1], h2.2⟩
theorem Zla {f : Fl} {K : Option R} (h : ZAD f K = some r) : f = .sh ∧ K = some r := by
 unfold ZAD at h
 split at h <;> first | (cases h; done) | exact ⟨rfl, h⟩
theorem Zdt {v : V} {K : Nat → Nat → Nat → Nat → Option R} (h : Zop v K = some r) : ∃ o ver off len, v = .arr o ver off len ∧ K o ver off len = some r := by
 unfold Zop at h
 split at h <;> first | (cases h; done) | exact ⟨_, _, _, _, rfl, h⟩
theorem Zcy {v : V} {K : Nat → Nat → Nat → Nat → Option R} (h : ZjR v K = some r) : ∃ o ver i j, v = .ptr o ver i j ∧ K o ver i j = some r := by
 unfold ZjR at h
 split at h <;> first | (cases h; done) | exact ⟨_, _, _, _, rfl, h⟩
theorem ZbM {g : FuncId} {v : V} {K : List V → Option R} (h : ZnN g v K = some r) : ∃ caps, v = .fn g caps ∧ K caps = some r := by
 unfold ZnN at h
 split at h <;> first | (cases h; done) | skip
 have h2 := Zaw h
 exact ⟨_, by rw [h2.1], h2.2⟩
theorem Zcr {s : S} {K : Ob → S → Option R} (h : ZuJ s K = some r) : ∃ ob s', s = some ob :: s' ∧ K ob s' = some r := by
 unfold ZuJ at h
 split at h <;> first | (cases h; done) | exact ⟨_, _, rfl, h⟩
theorem Zad {s : S} {K : Option R} (h : ZaP s K = some r) : s = [] ∧ K = some r := by
 unfold ZaP at h
 split at h <;> first | (cases h; done) | exact ⟨rfl, h⟩
theorem ZbB {ob : Ob} {esz : Nat} {elem : TypeId} {K : List V → Nat → Option R} (h : Zkn ob esz elem K = some r) : ∃ es ver, ob = ⟨es, esz, elem, ver⟩ ∧ K es ver = some r := by
 unfold Zkn at h
 obtain ⟨h1, h3⟩ := Zaw h
 obtain ⟨h2, h4⟩ := Zaw h3
 obtain ⟨es, a, b, ver⟩ := ob
 simp only at h1 h2
 subst h1 h2
 exact ⟨_, _, rfl, h4⟩
end
theorem ZbH.add {P : Program} {C : Cfg} {Λ : ZaH} {b : Code} {q p : List Nat} {f : (R : Type) → List V → S → (X → List V → S → Option R) → Option R} (h : ZbH P C Λ b q) (hq : Zk4 q p = false) : ZbH P C (Λ.add p f) b q := by
 intro R E s K r hr
 unfold ZaH.add at hr
 rw [hq] at hr
 exact h R E s K r hr
theorem Zho : ∀ p : List Nat, Zk4 p p = true
 | [] => rfl
 | a :: l => by simp only [Zk4, Nat.beq_refl, Zho l]
theorem ZaH.add_self {Λ : ZaH} {p : List Nat} {f : (R : Type) → List V → S → (X → List V → S → Option R) → Option R} {R : Type} {E : List V} {s : S} {K : X → List V → S → Option R} : (Λ.add p f) R p E s K = f R E s K := by
 unfold ZaH.add
 rw [Zho]
def ZbA (n : Nat) (keep : List Nat) (E : List V) : Bool := Nat.beq E.length n && Zeh keep 0 E
theorem Zbo {slots : List (Nat × V)} {keep : List Nat} {E : List V} {n : Nat} (h : ZbA n keep E = true) (hk : slots.map (·.1) = keep) (hs : ∀ j v, (j, v) ∈ slots → nth E j = some v) : E = mkF 0 n slots := by
 unfold ZbA at h
 rw [Bool.and_eq_true] at h
 exact ZvS (Nat.eq_of_beq_eq_true h.1) (by rw [hk]; exact h.2) hs
theorem Za7 {E : List V} : ∀ j v, (j, v) ∈ ([] : List (Nat × V)) → nth E j = some v := fun j v h => by cases h
theorem Zag {E : List V} {k : Nat} {u : V} {l : List (Nat × V)} (h : nth E k = some u) (hl : ∀ j v, (j, v) ∈ l → nth E j = some v) : ∀ j v, (j, v) ∈ (k, u) :: l → nth E j = some v := fun j v hm => by
 rcases List.mem_cons.1 hm with he | hm
 ·injection he with h1 h2
  subst h1 h2
  exact h
 ·exact hl j v hm
end Go.VM
