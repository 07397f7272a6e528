/- Lists of structs among the arguments of a law. -/
import Derived.Test.YteekbhpdalbofaaGreatDoorVmZc
set_option linter.unusedSimpArgs false
set_option linter.unusedVariables false
namespace Go.VM
open Go.RowKit Go.Lib
theorem Zn9 {α : Type} {f : α → V} {q : α → Prop} : ∀ {es : List V}, (∀ el ∈ es, ∃ a, el = f a ∧ q a) → ∃ l : List α, es = l.map f ∧ ∀ a ∈ l, q a
 | [], _ => ⟨[], rfl, by simp⟩
 | el :: es, h => by
  obtain ⟨a, rfl, ha⟩ := h el (by simp)
  obtain ⟨l, rfl, hl⟩ := Zn9 (es := es) fun el hm => h el (by simp [hm])
  exact ⟨a :: l, rfl, by intro x hm; rcases List.mem_cons.1 hm with rfl | hm; exact ha; exact hl x hm⟩
theorem ZfM {P : Program} {n : Nat} {t : TypeId} {fs : Array Field} {cs : List V} (ht : P.underlying t = some (.struct fs)) (h : Ze9 P (n + 1) t cs) :
  cs.length = P.cellsOf t ∧ ∀ f ∈ fs.toList, Ze9 P n f.type ((cs.drop f.offset).take (P.cellsOf f.type)) := by
 unfold Ze9 at h
 rw [ht] at h
 exact h
theorem ZiB {P : Program} {n : Nat} {t e : TypeId} {fs : Array Field} {c : V} {α : Type} {f : α → V} {q : α → Prop} (ht : P.underlying t = some (.slice e)) (he : P.underlying e = some (.struct fs))
  (hf : ∀ ds, ds.length = P.cellsOf e → (∀ fl ∈ fs.toList, Ze9 P n fl.type ((ds.drop fl.offset).take (P.cellsOf fl.type))) → ∃ a, V.agg ds = f a ∧ q a) (h : Ze9 P (n + 2) t [c]) :
  ∃ l : List α, c = .list (P.cellsOf e) (l.map f) .sh ∧ l.length ≤ maxLen ∧ ∀ a ∈ l, q a := by
 obtain ⟨es, rfl, hl, hel⟩ := Zxu ht h
 obtain ⟨l, rfl, hq⟩ := Zn9 (f := f) (q := q) (es := es) fun el hm => by
  obtain ⟨ds, rfl, hd⟩ := hel el hm
  obtain ⟨h1, h2⟩ := ZfM he hd
  obtain ⟨a, ha, hq⟩ := hf ds h1 h2
  exact ⟨a, by simp only [ZIF, he]; exact ha, hq⟩
 exact ⟨l, rfl, by simpa using hl, hq⟩
end Go.VM
