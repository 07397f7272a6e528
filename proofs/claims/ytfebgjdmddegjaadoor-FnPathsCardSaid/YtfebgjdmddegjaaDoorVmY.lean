/- Frames that are known whole. -/
import Derived.Test.YtfebgjdmddegjaaDoorVmX
set_option linter.unusedSimpArgs false
set_option linter.unusedVariables false
namespace Go.VM
open Go.RowKit Go.Lib
def ZmI (k : Nat) : List (Nat × V) → V
 | [] => .dead
 | (j, v) :: l => match Nat.beq k j with
  | true => v
  | false => ZmI k l
def mkF : Nat → Nat → List (Nat × V) → List V
 | _, 0, _ => []
 | k, n + 1, l => ZmI k l :: mkF (k + 1) n l
def Zeh (keep : List Nat) : Nat → List V → Bool
 | _, [] => true
 | k, v :: F => match keep.any (Nat.beq k) with
  | true => Zeh keep (k + 1) F
  | false => match v with
   | .dead => Zeh keep (k + 1) F
   | _ => false
theorem Zlg {k : Nat} : ∀ {l : List (Nat × V)}, (l.map (·.1)).any (Nat.beq k) = true → (k, ZmI k l) ∈ l
 | [], h => by simp at h
 | (j, v) :: l, h => by
  unfold ZmI
  cases hb : Nat.beq k j with
  | true =>
   have := Nat.eq_of_beq_eq_true hb
   subst this
   simp
  | false =>
   simp only [List.map_cons, List.any_cons, hb, Bool.false_or] at h
   exact List.mem_cons_of_mem _ (Zlg h)
theorem Zik {k : Nat} : ∀ {l : List (Nat × V)}, (l.map (·.1)).any (Nat.beq k) = false → ZmI k l = .dead
 | [], _ => rfl
 | (j, v) :: l, h => by
  simp only [List.map_cons, List.any_cons, Bool.or_eq_false_iff] at h
  unfold ZmI
  rw [h.1]
  exact Zik h.2
theorem Zf4 {slots : List (Nat × V)} : ∀ (F : List V) (k : Nat), Zeh (slots.map (·.1)) k F = true → (∀ j v, (j, v) ∈ slots → k ≤ j → nth F (j - k) = some v) → F = mkF k F.length slots
 | [], _, _, _ => rfl
 | v :: F, k, hr, hs => by
  have rest : ∀ j u, (j, u) ∈ slots → k + 1 ≤ j → nth F (j - (k + 1)) = some u := fun j u hm hj => by
   have := hs j u hm (by omega)
   rw [show j - k = (j - (k + 1)) + 1 by omega] at this
   exact this
  show v :: F = ZmI k slots :: mkF (k + 1) F.length slots
  simp only [Zeh] at hr
  cases hk : (slots.map (·.1)).any (Nat.beq k) with
  | true =>
   rw [hk] at hr
   have h0 := hs k _ (Zlg hk) (Nat.le_refl k)
   rw [Nat.sub_self] at h0
   simp only [nth] at h0
   rw [← Option.some.inj h0, ← Zf4 F (k + 1) hr rest]
  | false =>
   rw [hk] at hr
   rw [Zik hk]
   cases v <;> first | (cases hr; done) | skip
   rw [← Zf4 F (k + 1) hr rest]
theorem ZvS {slots : List (Nat × V)} {F : List V} {n : Nat} (hl : F.length = n) (hr : Zeh (slots.map (·.1)) 0 F = true) (hs : ∀ j v, (j, v) ∈ slots → nth F j = some v) : F = mkF 0 n slots := by
 rw [← hl]
 exact Zf4 F 0 hr fun j v hm _ => by rw [Nat.sub_zero]; exact hs j v hm
end Go.VM
