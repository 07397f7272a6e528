/- Values and objects that are read by their form. -/
import Derived.Test.YteekbhpdalbofaaGreatDoorVmY
set_option linter.unusedSimpArgs false
set_option linter.unusedVariables false
namespace Go.VM
open Go.RowKit Go.Lib
section
variable {R : Type}
def isN (a b : Nat) (K : Option R) : Option R :=
 match Nat.beq a b with
 | true => K
 | false => none
def asOwn (e : TypeId) (f : Fl) (K : Option R) : Option R :=
 match f with
 | .own e' => isN e' e K
 | _ => none
def asSh (f : Fl) (K : Option R) : Option R :=
 match f with
 | .sh => K
 | _ => none
def asArr (v : V) (K : Nat → Nat → Nat → Nat → Option R) : Option R :=
 match v with
 | .arr o ver off len => K o ver off len
 | _ => none
def asPtr (v : V) (K : Nat → Nat → Nat → Nat → Option R) : Option R :=
 match v with
 | .ptr o ver i j => K o ver i j
 | _ => none
def asFn (g : FuncId) (v : V) (K : List V → Option R) : Option R :=
 match v with
 | .fn g' caps => isN g' g (K caps)
 | _ => none
def asOb (s : S) (K : Ob → S → Option R) : Option R :=
 match s with
 | some ob :: s => K ob s
 | _ => none
def asEnd (s : S) (K : Option R) : Option R :=
 match s with
 | [] => K
 | _ => none
def obIs (ob : Ob) (esz : Nat) (elem : TypeId) (K : List V → Nat → Option R) : Option R :=
 isN ob.esz esz (isN ob.elem elem (K ob.es ob.ver))
variable {r : R}
theorem isN_some {a b : Nat} {K : Option R} (h : isN a b K = some r) : a = b ∧ K = some r := by
 unfold isN at h
 split at h <;> first | (cases h; done) | skip
 rename_i hh
 exact ⟨Nat.eq_of_beq_eq_true hh, h⟩
theorem asOwn_some {e : TypeId} {f : Fl} {K : Option R} (h : asOwn e f K = some r) : f = .own e ∧ K = some r := by
 unfold asOwn at h
 split at h <;> first | (cases h; done) | skip
 have h2 := isN_some h
 exact ⟨by rw [h2.1], h2.2⟩
theorem asSh_some {f : Fl} {K : Option R} (h : asSh f K = some r) : f = .sh ∧ K = some r := by
 unfold asSh at h
 split at h <;> first | (cases h; done) | exact ⟨rfl, h⟩
theorem asArr_some {v : V} {K : Nat → Nat → Nat → Nat → Option R} (h : asArr v K = some r) : ∃ o ver off len, v = .arr o ver off len ∧ K o ver off len = some r := by
 unfold asArr at h
 split at h <;> first | (cases h; done) | exact ⟨_, _, _, _, rfl, h⟩
theorem asPtr_some {v : V} {K : Nat → Nat → Nat → Nat → Option R} (h : asPtr v K = some r) : ∃ o ver i j, v = .ptr o ver i j ∧ K o ver i j = some r := by
 unfold asPtr at h
 split at h <;> first | (cases h; done) | exact ⟨_, _, _, _, rfl, h⟩
theorem asFn_some {g : FuncId} {v : V} {K : List V → Option R} (h : asFn g v K = some r) : ∃ caps, v = .fn g caps ∧ K caps = some r := by
 unfold asFn at h
 split at h <;> first | (cases h; done) | skip
 have h2 := isN_some h
 exact ⟨_, by rw [h2.1], h2.2⟩
theorem asOb_some {s : S} {K : Ob → S → Option R} (h : asOb s K = some r) : ∃ ob s', s = some ob :: s' ∧ K ob s' = some r := by
 unfold asOb at h
 split at h <;> first | (cases h; done) | exact ⟨_, _, rfl, h⟩
theorem asEnd_some {s : S} {K : Option R} (h : asEnd s K = some r) : s = [] ∧ K = some r := by
 unfold asEnd at h
 split at h <;> first | (cases h; done) | exact ⟨rfl, h⟩
theorem obIs_some {ob : Ob} {esz : Nat} {elem : TypeId} {K : List V → Nat → Option R} (h : obIs ob esz elem K = some r) : ∃ es ver, ob = ⟨es, esz, elem, ver⟩ ∧ K es ver = some r := by
 unfold obIs at h
 obtain ⟨h1, h3⟩ := isN_some h
 obtain ⟨h2, h4⟩ := isN_some h3
 obtain ⟨es, a, b, ver⟩ := ob
 simp only at h1 h2
 subst h1 h2
 exact ⟨_, _, rfl, h4⟩
end
theorem LoopOk.add {P : Program} {C : Cfg} {Λ : Looper} {b : Code} {q p : List Nat} {f : (R : Type) → List V → S → (X → List V → S → Option R) → Option R} (h : LoopOk P C Λ b q) (hq : pathEq q p = false) : LoopOk P C (Λ.add p f) b q := by
 intro R E s K r hr
 unfold Looper.add at hr
 rw [hq] at hr
 exact h R E s K r hr
theorem pathEq_refl : ∀ p : List Nat, pathEq p p = true
 | [] => rfl
 | a :: l => by simp only [pathEq, Nat.beq_refl, pathEq_refl l]
theorem Looper.add_self {Λ : Looper} {p : List Nat} {f : (R : Type) → List V → S → (X → List V → S → Option R) → Option R} {R : Type} {E : List V} {s : S} {K : X → List V → S → Option R} : (Λ.add p f) R p E s K = f R E s K := by
 unfold Looper.add
 rw [pathEq_refl]
def frameOk (n : Nat) (keep : List Nat) (E : List V) : Bool := Nat.beq E.length n && restDead keep 0 E
theorem frame_is {slots : List (Nat × V)} {keep : List Nat} {E : List V} {n : Nat} (h : frameOk n keep E = true) (hk : slots.map (·.1) = keep) (hs : ∀ j v, (j, v) ∈ slots → nth E j = some v) : E = mkF 0 n slots := by
 unfold frameOk at h
 rw [Bool.and_eq_true] at h
 exact frame_eq (Nat.eq_of_beq_eq_true h.1) (by rw [hk]; exact h.2) hs
theorem slots_nil {E : List V} : ∀ j v, (j, v) ∈ ([] : List (Nat × V)) → nth E j = some v := fun j v h => by cases h
theorem slots_cons {E : List V} {k : Nat} {u : V} {l : List (Nat × V)} (h : nth E k = some u) (hl : ∀ j v, (j, v) ∈ l → nth E j = some v) : ∀ j v, (j, v) ∈ (k, u) :: l → nth E j = some v := fun j v hm => by
 rcases List.mem_cons.1 hm with he | hm
 ·injection he with h1 h2
  subst h1 h2
  exact h
 ·exact hl j v hm
end Go.VM
