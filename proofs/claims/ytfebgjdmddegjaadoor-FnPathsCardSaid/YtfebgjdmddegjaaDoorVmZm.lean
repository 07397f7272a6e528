/- strings.Join, by its contract. -/
import Derived.Test.YtfebgjdmddegjaaDoorVmZl
import Derived.Below
import Derived.Shelf.Strings.OnBuilder
set_option linter.unusedSimpArgs false
set_option linter.unusedVariables false
namespace Go.VM
open Go.RowKit Go.Lib
def Zdq : List V → Option (List ByteArray)
 | [] => some []
 | .str b :: l => match Zdq l with
  | some bs => some (b :: bs)
  | none => none
 | _ => none
theorem Zfe : ∀ {es : List V} {xs : List ByteArray}, Zdq es = some xs → es.length = xs.length ∧ ∀ i e, nth es i = some e → ∃ b, e = .str b ∧ xs[i]? = some b
 | [], xs, h => by
  obtain rfl := Option.some.inj h
  exact ⟨rfl, fun i e h => by simp [nth] at h⟩
 | v :: l, xs, h => by
  cases v <;> simp only [Zdq] at h <;> first | (cases h; done) | skip
  rename_i b
  cases hl : Zdq l with
  | none => rw [hl] at h; cases h
  | some bs =>
   rw [hl] at h
   obtain rfl := Option.some.inj h
   obtain ⟨h1, h2⟩ := Zfe hl
   refine ⟨by simp [h1], fun i e hi => ?_⟩
   cases i with
   | zero => simp only [nth] at hi; exact ⟨b, (Option.some.inj hi).symm, rfl⟩
   | succ i => exact h2 i e hi
theorem ZtK {P : Program} {f : FuncId} {fn : Func} (hf : P.funcs[f]? = some fn) (hb : fn.body.isNone = false) (hname : (fn.name == "runtime.NumGoroutine") = false)
  (h0 : ∀ (a : Option Addr) (c : Nat) (sep : ByteArray) (w : World), Calls P f #[.slice a 0 c, .string sep] w fun e w' => e = .returned (.string ⟨#[]⟩) ∧ w' = w)
  (h1 : ∀ (bk o c : Nat) (xs : List ByteArray) (sep : ByteArray) (w : World), (∀ (j : Nat) x, xs[j]? = some x → w.cell? ⟨bk, o + j, none⟩ = some (.string x)) → bk < w.heap.size → xs.length ≤ 140737488355328 → xs.length ≤ c →
   (Lib.join (xs.map (·.data.toList)) sep.data.toList).length ≤ 140737488355328 →
   Calls P f #[.slice (some ⟨bk, o, none⟩) xs.length c, .string sep] w fun e w' => e = .returned (.string ⟨(Lib.join (xs.map (·.data.toList)) sep.data.toList).toArray⟩) ∧ Below w.heap.size w w')
  {es : List V} {fl : Fl} {sep : ByteArray} {xs : List ByteArray} (hx : Zdq es = some xs) (hn : xs.length ≤ 140737488355328) (hlen : (Lib.join (xs.map (·.data.toList)) sep.data.toList).length ≤ 140737488355328) :
  ZdU P f [.list 1 es fl, .str sep] (.str ⟨(Lib.join (xs.map (·.data.toList)) sep.data.toList).toArray⟩) := by
 refine ⟨by simp [V.still], fun g w rvs hs hi hl hargs => ?_⟩
 obtain ⟨hel, hat⟩ := Zfe hx
 have hrv : ∃ a b, rvs = #[a, b] ∧ DR g w false (.list 1 es fl) a ∧ DR g w false (.str sep) b := by
  match hq : rvs.toList, (by simpa using hl : 2 = rvs.toList.length) with
  | [a, b], _ =>
   have h0 : rvs[0]? = some a := by rw [← Array.getElem?_toList, hq]; rfl
   have h1 : rvs[1]? = some b := by rw [← Array.getElem?_toList, hq]; rfl
   exact ⟨a, b, by apply Array.ext'; simpa using hq, (hargs 0 _ a rfl h0).1, (hargs 1 _ b rfl h1).1⟩
  | [], h => simp at h
  | [_], h => simp at h
  | _ :: _ :: _ :: _, h => simp at h
 obtain ⟨a, b, rfl, ha, hb2⟩ := hrv
 cases hb2
 cases ha with
 | list esz es f A n c b off cv hln hc hl hA hsz hf2 ho hw hd =>
  subst hln
  have fin : ∀ rv w', rv = Value.string ⟨(Lib.join (xs.map (·.data.toList)) sep.data.toList).toArray⟩ → Below w.heap.size w w' →
    w.heap.size ≤ w'.heap.size ∧ (∀ b, b < w.heap.size → w'.heap[b]? = w.heap[b]?) ∧ w'.os = w.os ∧ w'.tape = w.tape ∧ w'.output = w.output ∧
     ∃ N : Nat → Nat → Prop, (∀ b i, N b i → w.heap.size ≤ b ∧ b < w'.heap.size) ∧ DR (g.more N) w' true (.str ⟨(Lib.join (xs.map (·.data.toList)) sep.data.toList).toArray⟩) rv := by
   rintro rv w' rfl hbel
   exact ⟨hbel.size, hbel.block, hbel.os, hbel.tape, hbel.output, fun _ _ => False, fun _ _ h => h.elim, .str _⟩
  by_cases hes : es = []
  ·subst hes
   obtain rfl : xs = [] := List.eq_nil_of_length_eq_zero hel.symm
   exact ZdK.of_calls hf hb hname ((h0 A c sep w).mono fun e w' ⟨he, hw'⟩ => ⟨_, he, fin _ _ rfl (by rw [hw']; exact Below.refl _ _)⟩)
  ·obtain rfl := hA.resolve_left hes
   have hcell : ∀ (j : Nat) x, xs[j]? = some x → w.cell? ⟨b, off + j, none⟩ = some (.string x) ∧ g.imm b (off + j) := by
    intro j x hj
    have hjl : j < es.length := by rw [hel]; exact (List.getElem?_eq_some_iff.1 hj).1
    have hej : nth es j = some es[j] := by rw [Zaf, List.getElem?_eq_getElem hjl]
    obtain ⟨bb, hbb, hxb⟩ := hat j _ hej
    obtain rfl := Option.some.inj (hj.symm.trans hxb)
    have hc0 : nth (es[j]).cells 0 = some (.str x) := by rw [hbb]; rfl
    have h3 := hw j _ 0 _ hej hc0
    have h4 := hd j _ 0 _ hej hc0
    have h5 := ho j _ 0 _ hej hc0
    simp only [Nat.mul_one, Nat.add_zero] at h3 h5
    cases h4' : cv j 0 with
    | string s => rw [h4'] at h4 h3; cases h4; exact ⟨h3, Zi9 hs h5⟩
    | _ => rw [h4'] at h4; cases h4
   have hpos : 0 < xs.length := by
    rw [← hel]
    cases es with
    | nil => exact absurd rfl hes
    | cons _ _ => simp
   have hblt : b < w.heap.size := hi b (off + 0) (hcell 0 _ (List.getElem?_eq_getElem hpos)).2
   rw [hel] at hc ⊢
   exact ZdK.of_calls hf hb hname ((h1 b off c xs sep w (fun j x hj => (hcell j x hj).1) hblt hn hc hlen).mono fun e w' ⟨he, hbel⟩ => ⟨_, he, fin _ _ rfl hbel⟩)
end Go.VM
