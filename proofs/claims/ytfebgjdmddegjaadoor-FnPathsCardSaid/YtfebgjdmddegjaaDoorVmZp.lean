/- slices.Clone of texts, by its contract. -/
import Derived.Test.YtfebgjdmddegjaaDoorVmZo
set_option linter.unusedSimpArgs false
set_option linter.unusedVariables false
namespace Go.VM
open Go.RowKit Go.Lib
theorem ZyI {g : G} {w w' : World} {e : TypeId} {v : Value} {xs : List ByteArray} {es : List V} (hx : Zdq es = some xs) (h : w'.ownsRow w.heap.size e 1 v es.length (xs.map Value.string)) :
  ∃ N : Nat → Nat → Prop, (∀ b i, N b i → w.heap.size ≤ b ∧ b < w'.heap.size) ∧ DR (g.more N) w' true (.list 1 es .sh) v := by
 obtain ⟨hel, hat⟩ := Zfe hx
 obtain ⟨h1, h2⟩ := h
 rcases h2 with ⟨rfl, h0⟩ | ⟨b, cap, cur, rfl, hb, hh, hn, hm, hcs, ht⟩
 ·obtain rfl := List.eq_nil_of_length_eq_zero h0
  exact ⟨fun _ _ => False, fun _ _ h => h.elim, .list 1 [] .sh none 0 0 0 0 (fun _ _ => undef) rfl (Nat.le_refl _) (fun h => by cases h) (.inl rfl) (fun i e h => by simp [nth] at h) (fun i e j x h => by simp [nth] at h) (fun i e j x h => by simp [nth] at h) (fun i e j x h => by simp [nth] at h) (fun i e j x h => by simp [nth] at h)⟩
 ·have hlt : b < w'.heap.size := (Array.getElem?_eq_some_iff.1 hh).1
  refine ⟨fun b' _ => b' = b, fun b' i h => by subst h; exact ⟨hb, hlt⟩, ?_⟩
  have hone : ∀ i e j x, nth es i = some e → nth e.cells j = some x → j = 0 ∧ ∃ y, x = .str y ∧ xs[i]? = some y := by
   intro i e j x hi hj
   obtain ⟨y, rfl, hy⟩ := hat i e hi
   cases j with
   | zero =>
    simp only [V.cells, nth] at hj
    exact ⟨rfl, y, (Option.some.inj hj).symm, hy⟩
   | succ j => simp [V.cells, nth] at hj
  have hcur : ∀ (i : Nat) (y : ByteArray), xs[i]? = some y → cur[i]? = some (Value.string y) := by
   intro i y hy
   have hil : i < es.length := by rw [hel]; exact (List.getElem?_eq_some_iff.1 hy).1
   have : (cur.toList.take (es.length * 1))[i]? = some (.string y) := by rw [ht, List.getElem?_map, hy]; rfl
   rw [List.getElem?_take_of_lt (by omega), Array.getElem?_toList] at this
   exact this
  refine .list 1 es .sh _ _ _ b 0 (fun i _ => match xs[i]? with | some y => .string y | none => undef) rfl hn (fun h => by cases h) (.inr rfl) (fun i e hi => ?_) (fun i e j x hi hj => ?_) (fun i e j x hi hj => ?_) (fun i e j x hi hj => ?_) (fun i e j x hi hj => ?_)
  ·obtain ⟨y, rfl, hy⟩ := hat i e hi; rfl
  ·obtain ⟨rfl, y, rfl, hy⟩ := hone i e j x hi hj; rfl
  ·exact .inr rfl
  ·obtain ⟨rfl, y, rfl, hy⟩ := hone i e j x hi hj
   rw [Nat.mul_one, Nat.add_zero, Nat.zero_add]
   simp only [hy]
   exact Zax hh (hcur i y hy)
  ·obtain ⟨rfl, y, rfl, hy⟩ := hone i e j x hi hj
   simp only [hy]
   exact .str y
def Zo8 {R : Type} (es : List V) (k : List V → Option R) : Option R :=
 match Zdq es with
 | some xs => if es.length * 16 ≤ 140737488355328 then k es else none
 | none => none
theorem ZnF {P : Program} {f : FuncId} {fn : Func} {e : TypeId} (hf : P.funcs[f]? = some fn) (hb : fn.body.isNone = false) (hname : (fn.name == "runtime.NumGoroutine") = false)
  (h0 : ∀ (n c : Nat) (w : World), Calls P f #[.slice none n c] w fun e w' => e = .returned (.slice none 0 0) ∧ w' = w)
  (hz : ∀ (a : Addr) (c : Nat) (w : World), Calls P f #[.slice (some a) 0 c] w fun ev w' => ∃ v', ev = .returned v' ∧ w'.ownsRow w.heap.size e 1 v' 0 [] ∧ v' ≠ .slice none 0 0 ∧ Below w.heap.size w w')
  (h1 : ∀ (b off n c : Nat) (zs : List ByteArray) (w : World), n ≤ zs.length → n * 16 ≤ 140737488355328 → (∀ j, j < zs.length → w.cell? ⟨b, off + j, none⟩ = some (.string (zs.getD j ByteArray.empty))) →
   Calls P f #[.slice (some ⟨b, off, none⟩) n c] w fun ev w' => ∃ v', ev = .returned v' ∧ w'.ownsRow w.heap.size e 1 v' n ((zs.take n).map Value.string) ∧ v' ≠ .slice none 0 0 ∧ Below w.heap.size w w')
  {R : Type} {es : List V} {fl : Fl} {k : List V → Option R} {r : R} (h : Zo8 es k = some r) : ∃ v, k v = some r ∧ ZdU P f [.list 1 es fl] (.list 1 v .sh) := by
 unfold Zo8 at h
 cases hx : Zdq es with
 | none => rw [hx] at h; cases h
 | some xs =>
  rw [hx] at h
  simp only at h
  split at h
  ·rename_i hc
   refine ⟨_, h, by simp [V.still], fun g w rvs hs hi hl hargs => ?_⟩
   obtain ⟨hel, hat⟩ := Zfe hx
   have hrv : ∃ a, rvs = #[a] ∧ DR g w false (.list 1 es fl) a := by
    match hq : rvs.toList, (by simpa using hl : 1 = rvs.toList.length) with
    | [a], _ =>
     have h0 : rvs[0]? = some a := by rw [← Array.getElem?_toList, hq]; rfl
     exact ⟨a, by apply Array.ext'; simpa using hq, (hargs 0 _ a rfl h0).1⟩
    | [], h => simp at h
    | _ :: _ :: _, h => simp at h
   obtain ⟨a, rfl, ha⟩ := hrv
   have fin : ∀ rv w', (w'.ownsRow w.heap.size e 1 rv es.length (xs.map Value.string)) → Below w.heap.size w w' →
     w.heap.size ≤ w'.heap.size ∧ (∀ b, b < w.heap.size → w'.heap[b]? = w.heap[b]?) ∧ w'.os = w.os ∧ w'.tape = w.tape ∧ w'.output = w.output ∧
      ∃ N : Nat → Nat → Prop, (∀ b i, N b i → w.heap.size ≤ b ∧ b < w'.heap.size) ∧ DR (g.more N) w' true (.list 1 es .sh) rv := by
    intro rv w' hr hbel
    exact ⟨hbel.size, hbel.block, hbel.os, hbel.tape, hbel.output, ZyI hx hr⟩
   cases ha with
   | list esz es f A n c b off cv hln hc2 hl hA hsz hf2 ho hw hd =>
    subst hln
    by_cases hes : es = []
    ·subst hes
     obtain rfl : xs = [] := List.eq_nil_of_length_eq_zero hel.symm
     cases A with
     | none => exact ZdK.of_calls hf hb hname ((h0 0 c w).mono fun ev w' ⟨he, hw'⟩ => ⟨_, he, fin _ _ ⟨rfl, .inl ⟨rfl, rfl⟩⟩ (by rw [hw']; exact Below.refl _ _)⟩)
     | some A => exact ZdK.of_calls hf hb hname ((hz A c w).mono fun ev w' ⟨v', he, hr, _, hbel⟩ => ⟨_, he, fin _ _ hr hbel⟩)
    ·obtain rfl := hA.resolve_left hes
     have hcell : ∀ (j : Nat), j < xs.length → w.cell? ⟨b, off + j, none⟩ = some (.string (xs.getD j ByteArray.empty)) := by
      intro j hj
      have hjl : j < es.length := by rw [hel]; exact hj
      have hej : nth es j = some es[j] := by rw [Zaf, List.getElem?_eq_getElem hjl]
      obtain ⟨x, hbb, hxb⟩ := hat j _ hej
      have hc0 : nth (es[j]).cells 0 = some (.str x) := by rw [hbb]; rfl
      have h3 := hw j _ 0 _ hej hc0
      have h4 := hd j _ 0 _ hej hc0
      simp only [Nat.mul_one, Nat.add_zero] at h3
      have hg : xs.getD j ByteArray.empty = x := by rw [List.getD_eq_getElem?_getD, hxb]; rfl
      rw [hg]
      cases h4' : cv j 0 with
      | string s => rw [h4'] at h4 h3; cases h4; exact h3
      | _ => rw [h4'] at h4; cases h4
     have hcalls := h1 b off es.length c xs w (by omega) hc hcell
     refine ZdK.of_calls hf hb hname (hcalls.mono fun ev w' ⟨v', he, hr, _, hbel⟩ => ⟨_, he, fin _ _ ?_ hbel⟩)
     rw [hel, List.take_length] at hr
     rw [hel]
     exact hr
  ·cases h
end Go.VM
