/- Frames that are known whole. -/
import Derived.Test.YtjbalmhcpkehnaaVmX
set_option linter.unusedSimpArgs false
set_option linter.unusedVariables false
namespace Go.VM
open Go.RowKit Go.Lib
def ZjM (k : Nat) : List (Nat × V) → V
 | [] => .dead
 | (j, v) :: l => match Nat.beq k j with
  | true => v
  | false => ZjM k l
def mkF : Nat → Nat → List (Nat × V) → List V
 | _, 0, _ => []
 | k, n + 1, l => ZjM k l :: mkF (k + 1) n l
def Zc9 (keep : List Nat) : Nat → List V → Bool
 | _, [] => true
 | k, v :: F => match keep.any (Nat.beq k) with
  | true => Zc9 keep (k + 1) F
  | false => match v with
   | .dead => Zc9 keep (k + 1) F
   | _ => false
theorem ZiK {k : Nat} : ∀ {l : List (Nat × V)}, (l.map (·.1)).any (Nat.beq k) = true → (k, ZjM k l) ∈ l
 | [], h => by simp at h
 | (j, v) :: l, h => by
  unfold ZjM
  cases hb : Nat.beq k j with
  | true =>
   have := Nat.eq_of_beq_eq_true hb
   subst this
   simp
  | false =>
   simp only [List.map_cons, List.any_cons, hb, Bool.false_or] at h
   exact List.mem_cons_of_mem _ (ZiK h)
theorem ZfU {k : Nat} : ∀ {l : List (Nat × V)}, (l.map (·.1)).any (Nat.beq k) = false → ZjM k l = .dead
 | [], _ => rfl
 | (j, v) :: l, h => by
  simp only [List.map_cons, List.any_cons, Bool.or_eq_false_iff] at h
  unfold ZjM
  rw [h.1]
  exact ZfU h.2
theorem Zen {slots : List (Nat × V)} : ∀ (F : List V) (k : Nat), Zc9 (slots.map (·.1)) k F = true → (∀ j v, (j, v) ∈ slots → k ≤ j → nth F (j - k) = some v) → F = mkF k F.length slots
 | [], _, _, _ => rfl
 | v :: F, k, hr, hs => by
  have rest : ∀ j u, (j, u) ∈ slots → k + 1 ≤ j → nth F (j - (k + 1)) = some u := fun j u hm hj => by
   have := hs j u hm (by omega)
   rw [show j - k = (j - (k + 1)) + 1 by omega] at this
   exact this
  show v :: F = ZjM k slots :: mkF (k + 1) F.length slots
  simp only [Zc9] at hr
  cases hk : (slots.map (·.1)).any (Nat.beq k) with
  | true =>
   rw [hk] at hr
   have h0 := hs k _ (ZiK hk) (Nat.le_refl k)
   rw [Nat.sub_self] at h0
   simp only [nth] at h0
   rw [← Option.some.inj h0, ← Zen F (k + 1) hr rest]
  | false =>
   rw [hk] at hr
   rw [ZfU hk]
   cases v <;> first | (cases hr; done) | skip
   rw [← Zen F (k + 1) hr rest]
theorem ZoI {slots : List (Nat × V)} {F : List V} {n : Nat} (hl : F.length = n) (hr : Zc9 (slots.map (·.1)) 0 F = true) (hs : ∀ j v, (j, v) ∈ slots → nth F j = some v) : F = mkF 0 n slots := by
 rw [← hl]
 exact Zen F 0 hr fun j v hm _ => by rw [Nat.sub_zero]; exact hs j v hm
end Go.VM
