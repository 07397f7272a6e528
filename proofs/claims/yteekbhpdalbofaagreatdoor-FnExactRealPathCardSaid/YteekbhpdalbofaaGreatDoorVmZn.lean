/- slices.Reverse of texts, by its contract: on an object of any version. -/
import Derived.Test.YteekbhpdalbofaaGreatDoorVmZm
import Derived.Shelf.Slices.ReverseS
set_option linter.unusedSimpArgs false
set_option linter.unusedVariables false
namespace Go.VM
open Go.RowKit Go.Lib
theorem ZqK : ∀ {es : List V} {xs : List ByteArray}, strsOf es = some xs → es = xs.map V.str
 | [], xs, h => by obtain rfl := Option.some.inj h; rfl
 | v :: l, xs, h => by
  cases v <;> simp only [strsOf] at h <;> first | (cases h; done) | skip
  rename_i b
  cases hl : strsOf l with
  | none => rw [hl] at h; cases h
  | some bs =>
   rw [hl] at h
   obtain rfl := Option.some.inj h
   rw [ZqK hl]; rfl
def ZN4 {R : Type} (v : V) (s : S) (K : V → S → Option R) : Option R :=
 match v with
 | .arr oo ver off n => match Zcq s oo ver with
  | some ob => match Nat.beq ob.esz 1 && Nat.beq off 0 && Nat.beq n ob.es.length && (strsOf ob.es).isSome with
   | true => K (.tuple []) (Za3 s oo (some { ob with es := ob.es.reverse }))
   | false => none
  | none => none
 | _ => none
theorem Zpg (b : ByteArray) : Proofs.encStr b.data.toList = .string b := by
 show Value.string ⟨b.data.toList.toArray⟩ = _
 simp
theorem ZkC {P : Program} {C : Cfg} {f : FuncId} {fn : Func} (hf : P.funcs[f]? = some fn) (hb : fn.body.isNone = false) (hname : (fn.name == "runtime.NumGoroutine") = false)
  (h0 : ∀ (a : Option Addr) (c : Nat) (w : World), Calls P f #[.slice a 0 c] w fun e w' => e = .returned (.tuple #[]) ∧ w' = w)
  (h1 : ∀ (blk off cap : Nat) (d : Array (List UInt8)) (w : World), Sort.Holds Proofs.encStr w blk off d → d.size ≤ 9223372036854775807 →
   Calls P f #[.slice (some ⟨blk, off, none⟩) d.size cap] w fun e w' => e = .returned (.tuple #[]) ∧ ∃ n, w' = Sort.putRow Proofs.encStr (Sort.ahead w n) blk off d.reverse)
  {s : S} {oo ver : Nat} {ob : Ob} {xs : List ByteArray} (hob : Zcq s oo ver = some ob) (hx : strsOf ob.es = some xs) (hesz : ob.esz = 1) :
  Zbx P C f [.arr oo ver 0 ob.es.length] s (.tuple []) (Za3 s oo (some { ob with es := ob.es.reverse })) := by
 refine ⟨by simp [V.still], by rw [Zay]; exact Nat.le_refl _, fun g w rvs keep hk hs hl hargs => ?_⟩
 obtain ⟨a, rfl, ha⟩ : ∃ a, rvs = #[a] ∧ VR g w (.arr oo ver 0 ob.es.length) a := by
  match hq : rvs.toList, (by simpa using hl : 1 = rvs.toList.length) with
  | [a], _ =>
   have h0 : rvs[0]? = some a := by rw [← Array.getElem?_toList, hq]; rfl
   exact ⟨a, by apply Array.ext'; simpa using hq, (hargs 0 _ a rfl h0).1⟩
  | [], h => simp at h
  | _ :: _ :: _, h => simp at h
 obtain ⟨q1, q2⟩ := Zb7 hob
 obtain ⟨x, hx', hr⟩ := hs.obj oo ob q1
 obtain ⟨arr, cap, b1, b2, b3, b4, b5, b7, b6⟩ := hr.blk
 have hes := ZqK hx
 have hlen : ob.es.length = xs.length := by rw [hes, List.length_map]
 cases ha with
 | data h => cases h
 | arr _ _ _ _ A cc hcc hlt hh =>
  obtain ⟨_, hh2⟩ := hh x hx'
  obtain ⟨hA, hcap⟩ := hh2 (by rw [hr.ver]; exact q2)
  by_cases hl0 : ob.es.length = 0
  ·have hnil : ob.es = [] := List.eq_nil_of_length_eq_zero hl0
   have hsame : (Za3 s oo (some { ob with es := ob.es.reverse })) = s := by
    have : ({ ob with es := ob.es.reverse } : Ob) = ob := by
     have hr0 : ob.es.reverse = ob.es := by rw [hnil]; rfl
     rw [hr0]
    rw [this, Zfo q1]
   rw [hsame, hl0]
   refine ZeL.of_calls hf hb hname ((h0 A cc w).mono fun ev w' ⟨he, hw⟩ => ⟨_, he, g, ?_⟩)
   subst hw
   exact ⟨Le.refl (by rw [hs.olen]; exact hk), hs, Zes⟩
  ·have hpx : 0 < x.2.2.2 := by rw [← b2, b3, hesz]; omega
   have b1 := b1 hpx
   have hAeq : A = some ⟨x.2.1, 0, none⟩ := by
    rcases hA with h | h
    ·omega
    ·rw [h, Nat.zero_mul]
   subst hAeq
   have hd : (xs.map (·.data.toList)).toArray.size = ob.es.length := by simp [hlen]
   have hat : ∀ j, j < ob.es.length → ∃ b, xs[j]? = some b ∧ arr[j]? = some (.string b) := by
    intro j hj
    have hjx : j < xs.length := by omega
    have he : nth ob.es j = some (.str xs[j]) := by rw [Zal, hes, List.getElem?_map, List.getElem?_eq_getElem hjx]; rfl
    obtain ⟨rv, r1, r2, _⟩ := b6 j _ 0 (.str xs[j]) he rfl
    rw [hesz, Nat.mul_one, Nat.add_zero] at r1
    refine ⟨xs[j], List.getElem?_eq_getElem hjx, ?_⟩
    cases r2 with
    | data h => cases h; exact r1
   have hget : ∀ (l : List ByteArray) (j : Nat) b, l[j]? = some b → (l.map (·.data.toList)).toArray[j]! = b.data.toList := by
    intro l j b hb
    have hjl := (List.getElem?_eq_some_iff.1 hb).1
    rw [getElem!_pos _ j (by simpa using hjl)]
    simp [(List.getElem?_eq_some_iff.1 hb).2]
   have hH : Sort.Holds Proofs.encStr w x.2.1 0 (xs.map (·.data.toList)).toArray := by
    intro j hj
    rw [hd] at hj
    obtain ⟨b, hb1, hb2⟩ := hat j hj
    rw [hget xs j b hb1, Zpg, Nat.zero_add]
    refine ⟨ZaO b1 hb2, ?_⟩
    simp [World.frozen?, b1]
   have hml : maxLen ≤ 9223372036854775807 := by decide
   have hmax : ob.es.length ≤ 9223372036854775807 := by omega
   have hcalls := h1 x.2.1 0 cc (xs.map (·.data.toList)).toArray w hH (by rw [hd]; exact hmax)
   rw [hd] at hcalls
   refine ZeL.of_calls hf hb hname (hcalls.mono fun ev w' ⟨he, q, hw⟩ => ⟨_, he, g, ?_⟩)
   subst hw
   have hs0 : Sim C g [] s Zbb (Sort.ahead w q) := hs.ext (Nat.le_refl _) fun _ _ => rfl
   have hle0 : ∀ keep, keep ≤ s.length → Le keep g w g (Sort.ahead w q) := fun keep hk => by
    have := Le.refl (g := g) (w := w) (keep := keep) (by rw [hs.olen]; exact hk)
    exact ⟨⟨this.keeps.imm, this.keeps.safe, this.keeps.cell⟩, this.size, this.os, this.tape, this.output, this.base, this.susp, this.low, this.sus, this.klen, this.obs⟩
   generalize harr2 : Sort.putCells Proofs.encStr 0 (xs.map (·.data.toList)).toArray.reverse arr = arr2
   have hrowW : Sort.putRow Proofs.encStr (Sort.ahead w q) x.2.1 0 (xs.map (·.data.toList)).toArray.reverse = (Sort.ahead w q).setRow x.2.1 arr2 := by
    unfold Sort.putRow
    rw [Sort.mapBlock_congr (g := fun _ => arr2) _ _ _ fun c e fr hc => by
     have hc' : w.heap[x.2.1]? = some (.cells c e fr) := hc
     rw [b1] at hc'
     obtain ⟨rfl, _⟩ : arr = c ∧ True := by
      have := Option.some.inj hc'
      injection this with h1 h2 h3
      exact ⟨h1, trivial⟩
     exact harr2]
    unfold Sort.mapBlock World.setRow
    congr 2
   rw [hrowW]
   have hrev : ob.es.reverse = xs.reverse.map V.str := by rw [hes, List.map_reverse]
   have hdr : (xs.map (·.data.toList)).toArray.reverse = (xs.reverse.map (·.data.toList)).toArray := by simp
   have hsz2 : (xs.reverse.map (·.data.toList)).toArray.size = ob.es.length := by simp [hlen]
   have hel : ∀ i e, nth ob.es.reverse i = some e → ∃ b, xs.reverse[i]? = some b ∧ e = .str b := by
    intro i e h
    rw [hrev] at h
    obtain ⟨y, hy, rfl⟩ := Zas h
    rw [Zal] at hy
    exact ⟨y, hy, rfl⟩
   have harrs : arr2.size = arr.size := by rw [← harr2]; unfold Sort.putCells; simp
   have hin : ∀ (i : Nat) (b : ByteArray), xs.reverse[i]? = some b → arr2[i]? = some (Value.string b) := by
    intro i b hb
    have hi : i < ob.es.length := by have := (List.getElem?_eq_some_iff.1 hb).1; simp at this; omega
    have hia : i < arr.size := by rw [b3, hesz]; omega
    rw [← harr2]
    unfold Sort.putCells
    rw [Array.getElem?_mapIdx, Array.getElem?_eq_getElem hia, Option.map_some, hdr, if_pos ⟨Nat.zero_le _, by rw [hsz2]; omega⟩, Nat.sub_zero, hget _ i b hb, Zpg]
   have hrow := hs0.row q1 hx' hpx arr2 ob.es.reverse (by rw [harrs, b2]) (by simp)
    (fun k v hk => by
     rw [← harr2] at hk
     unfold Sort.putCells at hk
     rw [Array.getElem?_mapIdx] at hk
     cases ha : arr[k]? with
     | none => rw [ha] at hk; cases hk
     | some u =>
      rw [ha, Option.map_some] at hk
      have hv := Option.some.inj hk
      split at hv
      ·rw [← hv]; rfl
      ·rw [← hv]; exact b7 k u ha)
    (fun i e hi => by obtain ⟨b, _, rfl⟩ := hel i e hi; rw [hesz]; rfl)
    (fun i e j c hi hj => by
     obtain ⟨b, _, rfl⟩ := hel i e hi
     cases j with
     | zero => simp only [V.cells, nth] at hj; rw [← Option.some.inj hj]; rfl
     | succ j => simp [V.cells, nth] at hj)
    (fun i e j c hi hj => by
     obtain ⟨b, hb, rfl⟩ := hel i e hi
     cases j with
     | zero =>
      simp only [V.cells, nth] at hj
      rw [← Option.some.inj hj]
      refine ⟨.string b, ?_, .data (.str b), OwnOk.of_not (by simp [V.still])⟩
      rw [hesz, Nat.mul_one, Nat.add_zero]
      exact hin i b hb
     | succ j => simp [V.cells, nth] at hj)
    0 0 (fun i e j sz es' e' rv b hi hj hrv hb => by
     exfalso
     obtain ⟨b, _, rfl⟩ := hel i e hi
     cases j with
     | zero => simp only [V.cells, nth] at hj; cases hj
     | succ j => simp [V.cells, nth] at hj)
   exact ⟨(hle0 keep hk).trans (hrow.2 keep hk), hrow.1, Zes⟩
theorem ZGY {P : Program} {C : Cfg} {f : FuncId} {fn : Func} (hf : P.funcs[f]? = some fn) (hb : fn.body.isNone = false) (hname : (fn.name == "runtime.NumGoroutine") = false)
  (h0 : ∀ (a : Option Addr) (c : Nat) (w : World), Calls P f #[.slice a 0 c] w fun e w' => e = .returned (.tuple #[]) ∧ w' = w)
  (h1 : ∀ (blk off cap : Nat) (d : Array (List UInt8)) (w : World), Sort.Holds Proofs.encStr w blk off d → d.size ≤ 9223372036854775807 →
   Calls P f #[.slice (some ⟨blk, off, none⟩) d.size cap] w fun e w' => e = .returned (.tuple #[]) ∧ ∃ n, w' = Sort.putRow Proofs.encStr (Sort.ahead w n) blk off d.reverse)
  {R : Type} {a : V} {s : S} {K : V → S → Option R} {r : R} (h : ZN4 a s K = some r) : ∃ v s', K v s' = some r ∧ Zbx P C f [a] s v s' := by
 unfold ZN4 at h
 cases a <;> simp only at h <;> first | (cases h; done) | skip
 rename_i oo ver off n
 cases hob : Zcq s oo ver with
 | none => rw [hob] at h; cases h
 | some ob =>
  rw [hob] at h
  simp only at h
  split at h
  ·rename_i hc
   simp only [Bool.and_eq_true] at hc
   obtain ⟨⟨⟨c1, c2⟩, c3⟩, c4⟩ := hc
   obtain rfl := Nat.eq_of_beq_eq_true c2
   obtain rfl := Nat.eq_of_beq_eq_true c3
   obtain ⟨xs, hx⟩ := Option.isSome_iff_exists.1 c4
   exact ⟨_, _, h, ZkC hf hb hname h0 h1 hob hx (Nat.eq_of_beq_eq_true c1)⟩
  ·cases h
def ZGu {R : Type} (es : List V) (sep : ByteArray) (k : ByteArray → Option R) : Option R :=
 match strsOf es with
 | some xs => if xs.length ≤ 140737488355328 ∧ (Lib.join (xs.map (·.data.toList)) sep.data.toList).length ≤ 140737488355328 then k ⟨(Lib.join (xs.map (·.data.toList)) sep.data.toList).toArray⟩ else none
 | none => none
theorem ZyC {P : Program} {f : FuncId} {fn : Func} (hf : P.funcs[f]? = some fn) (hb : fn.body.isNone = false) (hname : (fn.name == "runtime.NumGoroutine") = false)
  (h0 : ∀ (a : Option Addr) (c : Nat) (sep : ByteArray) (w : World), Calls P f #[.slice a 0 c, .string sep] w fun e w' => e = .returned (.string ⟨#[]⟩) ∧ w' = w)
  (h1 : ∀ (bk o c : Nat) (xs : List ByteArray) (sep : ByteArray) (w : World), (∀ (j : Nat) x, xs[j]? = some x → w.cell? ⟨bk, o + j, none⟩ = some (.string x)) → bk < w.heap.size → xs.length ≤ 140737488355328 → xs.length ≤ c →
   (Lib.join (xs.map (·.data.toList)) sep.data.toList).length ≤ 140737488355328 →
   Calls P f #[.slice (some ⟨bk, o, none⟩) xs.length c, .string sep] w fun e w' => e = .returned (.string ⟨(Lib.join (xs.map (·.data.toList)) sep.data.toList).toArray⟩) ∧ Below w.heap.size w w')
  {R : Type} {es : List V} {fl : Fl} {sep : ByteArray} {k : ByteArray → Option R} {r : R} (h : ZGu es sep k = some r) : ∃ v, k v = some r ∧ ZfG P f [.list 1 es fl, .str sep] (.str v) := by
 unfold ZGu at h
 cases hx : strsOf es with
 | none => rw [hx] at h; cases h
 | some xs =>
  rw [hx] at h
  simp only at h
  split at h
  ·rename_i hc
   exact ⟨_, h, ZC6 hf hb hname h0 h1 hx hc.1 hc.2⟩
  ·cases h
end Go.VM
