/- Functions without a body, by the model's own entries. -/
import Derived.Test.YteekbhpdalbofaaGreatDoorVmZj
import Derived.Lib.Bytealg
import Derived.Laws.AppendOwn
set_option linter.unusedSimpArgs false
set_option linter.unusedVariables false
namespace Go.VM
open Go.RowKit Go.Lib
section
variable {P : Program}
theorem ZeL.of_extern {f : FuncId} {fn : Func} {e : Array Value → Sem Value} {rvs : Array Value} {w : World} {v : Value} {T : Value → World → Prop} (hf : P.funcs[f]? = some fn) (hname : (fn.name == "runtime.NumGoroutine") = false)
  (hb : fn.body.isNone = true) (hn : Extern.findNext fn = none) (he : Extern.find fn = some e) (hr : (e rvs).run P w = .ok v w) (hT : T v w) : ZeL P f rvs w T := by
 intro o a next Q hnext
 rw [run_callFunc_extern hf hname hb hn he, hr]
 simp only [Result.andThen]
 rw [Oper.upon_value]
 exact hnext v w hT
theorem Ziz {f : FuncId} {fn : Func} {e : Array Value → Sem Value} (hf : P.funcs[f]? = some fn) (hname : (fn.name == "runtime.NumGoroutine") = false)
  (hb : fn.body.isNone = true) (hn : Extern.findNext fn = none) (he : Extern.find fn = some e) {s : ByteArray} {c n : Int} (hr : ∀ w, (e #[.string s, .int .u8 c]).run P w = .ok (.int .i64 n) w) : ZfG P f [.str s, .int .u8 c] (.int .i64 n) := by
 refine ⟨by simp [V.still], fun g w rvs hs hi hl hargs => ?_⟩
 have hrv : rvs = #[.string s, .int .u8 c] := by
  apply Array.ext'
  match hq : rvs.toList, (by simpa using hl : 2 = rvs.toList.length) with
  | [a, b], _ =>
   have h0 : rvs[0]? = some a := by rw [← Array.getElem?_toList, hq]; rfl
   have h1 : rvs[1]? = some b := by rw [← Array.getElem?_toList, hq]; rfl
   have e0 := (hargs 0 _ a rfl h0).1
   have e1 := (hargs 1 _ b rfl h1).1
   cases e0
   cases e1
   rfl
  | [], h => simp at h
  | [_], h => simp at h
  | _ :: _ :: _ :: _, h => simp at h
 subst hrv
 exact ZeL.of_extern hf hname hb hn he (hr w) ⟨Nat.le_refl _, fun _ _ => rfl, rfl, rfl, rfl, fun _ _ => False, fun _ _ h => h.elim, .int .i64 n⟩
theorem ZiR {f : FuncId} {fn : Func} (hf : P.funcs[f]? = some fn) (hname : (fn.name == "runtime.NumGoroutine") = false)
  (hb : fn.body.isNone = true) (hn : Extern.findNext fn = none) (he : Extern.find fn = some Extern.BytealgCount.count) (s : ByteArray) (c : Int) : ZfG P f [.str s, .int .u8 c] (.int .i64 ((Lib.countByte s.data.toList c.toNat.toUInt8 : Nat) : Int)) :=
 Ziz hf hname hb hn he fun w => run_countString s c w
theorem ZfB {f : FuncId} {fn : Func} (hf : P.funcs[f]? = some fn) (hname : (fn.name == "runtime.NumGoroutine") = false)
  (hb : fn.body.isNone = true) (hn : Extern.findNext fn = none) (he : Extern.find fn = some Extern.BytealgIndexByte.indexByte) (s : ByteArray) (c : Int) : ZfG P f [.str s, .int .u8 c] (.int .i64 (Lib.indexByte s.data.toList c.toNat.toUInt8)) :=
 Ziz hf hname hb hn he fun w => run_indexByteString s c w
theorem Zy2 {C : Cfg} (hC : Ok P C) {f : FuncId} {fn : Func} {e : TypeId} (hke : (C.ty e).known = true) (hf : P.funcs[f]? = some fn) (hb : fn.body.isNone = false) (hname : (fn.name == "runtime.NumGoroutine") = false)
  (h0 : ∀ w, Calls P f #[.slice none 0 0, .int .i64 0] w fun ev w' => ev = .returned (.slice none 0 0) ∧ w' = w)
  (h1 : ∀ w (n : Nat) (i0 : TypeInfo) (z : Value), 0 < n → P.info? e = some i0 → i0.zero = some z → 0 < i0.size → n * i0.bytes ≤ 140737488355328 → n ≤ 4611686018427387904 →
   Calls P f #[.slice none 0 0, .int .i64 n] w fun ev w' => ev = .returned (.slice (some ⟨w.heap.size, 0, none⟩) 0 (grownCap w n 0 e)) ∧
    w' = w.drew.alloc (.cells (Builtin.zeroCells z.cells n ++ Builtin.zeroCells z.cells (grownCap w n 0 e - n)) e))
  {B sz : Nat} (hB : (C.ty e).bytes = B) (hSz : (C.ty e).size = sz) {x : Int} (hx : 0 ≤ x ∧ x * (B : Nat) ≤ 140737488355328) : Zev P C f [.nils, .int .i64 x] (.list sz [] (.own e)) := by
 subst hB hSz
 refine ⟨_, _, e, rfl, hke, rfl, fun g w rvs hs hi hl hargs => ?_⟩
 obtain ⟨n, rfl⟩ : ∃ n : Nat, x = (n : Int) := ⟨x.toNat, by omega⟩
 have hrv : rvs = #[.slice none 0 0, .int .i64 n] := by
  apply Array.ext'
  match hq : rvs.toList, (by simpa using hl : 2 = rvs.toList.length) with
  | [a, b], _ =>
   have h0 : rvs[0]? = some a := by rw [← Array.getElem?_toList, hq]; rfl
   have h1 : rvs[1]? = some b := by rw [← Array.getElem?_toList, hq]; rfl
   have e0 := (hargs 0 _ a rfl h0).1
   have e1 := (hargs 1 _ b rfl h1).1
   cases e0
   cases e1
   rfl
  | [], h => simp at h
  | [_], h => simp at h
  | _ :: _ :: _ :: _, h => simp at h
 subst hrv
 have hdr : ∀ rv w', DR (g.more fun _ _ => False) w' true (.list (C.ty e).size [] (.own e)) (.slice rv 0 0) := fun rv w' =>
  .list _ [] _ rv 0 0 0 0 (fun _ _ => undef) rfl (Nat.le_refl _) (fun h => by cases h) (.inl rfl) (fun i e h => by simp [nth] at h) (fun i e j x h => by simp [nth] at h) (fun i e j x h => by simp [nth] at h) (fun i e j x h => by simp [nth] at h) (fun i e j x h => by simp [nth] at h)
 refine ZeL.of_calls hf hb hname ?_
 by_cases hn : n = 0
 ·subst hn
  refine (h0 w).mono fun ev w' ⟨h2, h3⟩ => ?_
  subst h3
  exact ⟨_, h2, Nat.le_refl _, fun _ _ => rfl, rfl, rfl, rfl, fun _ _ => False, fun _ _ h => h.elim, hdr _ _, ⟨[], by rw [List.length_nil, List.length_nil, Nat.zero_mul], .inl ⟨rfl, rfl⟩⟩, fun b hb => by cases hb⟩
 ·obtain ⟨i0, z, hi0, hsz, hby, hz0, hzs, _⟩ := (hC.ty e hke).info
  have hpos := (hC.ty e hke).pos
  have hbp := (hC.ty e hke).bpos
  have hb2 : n * i0.bytes ≤ 140737488355328 := by
   rw [hby]
   have := hx.2
   rw [← Int.natCast_mul] at this
   exact Int.ofNat_le.1 this
  have hn2 : n ≤ 140737488355328 := by
   have h4 : 1 ≤ i0.bytes := by rw [hby]; exact hbp
   have : n * 1 ≤ n * i0.bytes := Nat.mul_le_mul_left _ h4
   rw [Nat.mul_one] at this
   exact Nat.le_trans this hb2
  refine (h1 w n i0 z (by omega) hi0 hz0 (by omega) hb2 (by omega)).mono fun ev w' ⟨h2, h3⟩ => ?_
  subst h3
  have hge := grownCap_ge w n 0 e
  have hsize : ∀ ob, w.heap.size ≤ (w.drew.alloc ob).heap.size := fun ob => by
   show w.heap.size ≤ (w.heap.push ob).size
   rw [Array.size_push]; omega
  refine ⟨_, h2, hsize _, fun b hb' => ZdQ w.drew _ hb', rfl, rfl, rfl, fun _ _ => False, fun _ _ h => h.elim, ?_, ⟨[], by rw [List.length_nil, List.length_nil, Nat.zero_mul], .inr ⟨w.heap.size, grownCap w n 0 e, Builtin.zeroCells z.cells n ++ Builtin.zeroCells z.cells (grownCap w n 0 e - n), rfl, Nat.le_refl _, ZdN w.drew _, Nat.zero_le _, grownCap_le_maxLen w _ 0 e (by unfold maxLen; omega), ?_, by rw [List.length_nil, Nat.zero_mul, List.take_zero]⟩⟩, fun b hb i _ h => h⟩
  ·exact .list _ [] _ _ 0 _ 0 0 (fun _ _ => undef) rfl (by omega) (fun h => by cases h) (.inl rfl) (fun i e h => by simp [nth] at h) (fun i e j x h => by simp [nth] at h) (fun i e j x h => by simp [nth] at h) (fun i e j x h => by simp [nth] at h) (fun i e j x h => by simp [nth] at h)
  ·rw [Array.size_append, size_zeroCells, size_zeroCells, hzs, ← Nat.add_mul]
   congr 1
   omega
end
end Go.VM
