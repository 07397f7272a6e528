/- A state of which some objects are told, in another order. -/
import Derived.Test.YtjbalmhcpkehnaaVmZg
set_option linter.unusedSimpArgs false
set_option linter.unusedVariables false
namespace Go.VM
open Go.RowKit Go.Lib
def ZiO {α : Type} (o : Option (Option α)) : Option α := match o with | some (some a) => some a | _ => none
theorem Zgi {α : Type} {o : Option (Option α)} {a : α} (h : ZiO o = some a) : o = some (some a) := by
 unfold ZiO at h
 split at h
 ·rw [Option.some.inj h]
 ·cases h
def ZgT (ks : List Nat) (f : Nat → Option Nat) (s : S) : S := ks.map fun j => (ZiO (nth s j)).map (Ob.rho f)
def Zmp (ks : List Nat) (l : List (Option (Nat × Nat × Nat × Nat))) : List (Option (Nat × Nat × Nat × Nat)) := ks.map fun j => ZiO (nth l j)
def Zdf : List Nat → Nat → Nat → Option Nat
 | [], _, _ => none
 | k :: l, j, i => match Nat.beq k j with
  | true => some i
  | false => Zdf l j (i + 1)
theorem ZeO : ∀ {l : List Nat} {j i p : Nat}, Zdf l j i = some p → i ≤ p ∧ nth l (p - i) = some j
 | [], j, i, p, h => by cases h
 | k :: l, j, i, p, h => by
  simp only [Zdf] at h
  split at h
  ·rename_i hb
   obtain rfl := Option.some.inj h
   exact ⟨Nat.le_refl _, by rw [Nat.sub_self, Nat.eq_of_beq_eq_true hb]; rfl⟩
  ·obtain ⟨h1, h2⟩ := ZeO h
   refine ⟨by omega, ?_⟩
   rw [show p - i = (p - (i + 1)) + 1 by omega]
   exact h2
def Za1 : List Nat → Bool
 | [] => true
 | k :: l => !(l.any (Nat.beq k)) && Za1 l
theorem ZbL : ∀ {l : List Nat}, Za1 l = true → ∀ {a b j : Nat}, nth l a = some j → nth l b = some j → a = b
 | [], _, a, b, j, ha, _ => by cases a <;> simp [nth] at ha
 | k :: l, h, a, b, j, ha, hb => by
  simp only [Za1, Bool.and_eq_true, Bool.not_eq_true'] at h
  have no : ∀ n, nth l n = some k → False := fun n hn => by
   have : l.any (Nat.beq k) = true := List.any_eq_true.2 ⟨k, List.mem_of_getElem? (by rw [← Zac]; exact hn), Nat.beq_refl k⟩
   rw [h.1] at this
   cases this
  cases a with
  | zero =>
   cases b with
   | zero => rfl
   | succ b => simp only [nth] at ha hb; obtain rfl := Option.some.inj ha; exact (no b hb).elim
  | succ a =>
   cases b with
   | zero => simp only [nth] at ha hb; obtain rfl := Option.some.inj hb; exact (no a ha).elim
   | succ b => simp only [nth] at ha hb; rw [ZbL h.2 ha hb]
section
variable {P : Program} {C : Cfg} {g g' : G} {w w' : World} {f : Nat → Option Nat}
structure OwnSide (g g' : G) (w w' : World) (b : Nat) : Prop where
 heap : w'.heap[b]? = w.heap[b]?
 susp : g'.susp b → g.susp b
 imm : ∀ i, g'.imm b i → g.imm b i
 obs : ∀ o x, nth g'.obs o = some (some x) → 0 < x.2.2.2 → x.2.1 = b → ∃ o', nth g.obs o' = some (some x)
def V.ownsP (v : V) : Prop := ∃ sz es e, v = .list sz es (.own e)
theorem OwnOk.side {v : V} {rv : Value} (h : OwnOk C g w v rv) (hbase : g'.base = g.base) (hb : v.ownsP → ∀ b, rv.ownBlock = some b → OwnSide g g' w w' b) : OwnOk C g' w' v rv := by
 refine ⟨fun sz es e hv => ?_, h.agg⟩
 obtain ⟨h1, ⟨xs, h2⟩, h3, h4⟩ := h.own sz es e hv
 have hb := hb ⟨sz, es, e, hv⟩
 refine ⟨h1, ⟨xs, by rw [hbase]; exact ZaT h2 fun b hb' => (hb b hb').heap⟩, fun b hb' => ?_, h4⟩
 obtain ⟨q1, q2, q3⟩ := h3 b hb'
 refine ⟨fun hc => q1 ((hb b hb').susp hc), fun i hi hc => q2 i hi ((hb b hb').imm i hc), fun o x hx hp hc => ?_⟩
 obtain ⟨o', ho'⟩ := (hb b hb').obs o x hx hp hc
 exact q3 o' x ho' hp hc
theorem OwnOk.row {v : V} {rv : Value} (h : OwnOk C g w v rv) (ho : v.ownsP) {b : Nat} (hb : rv.ownBlock = some b) : b < w.heap.size ∧ g.base ≤ b ∧ ¬ g.susp b ∧ ∀ o x, nth g.obs o = some (some x) → 0 < x.2.2.2 → x.2.1 ≠ b := by
 obtain ⟨sz, es, e, hv⟩ := ho
 obtain ⟨h1, ⟨xs, h2⟩, h3, h4⟩ := h.own sz es e hv
 exact ⟨(ZaL h2 hb).1, (ZaL h2 hb).2, (h3 b hb).1, (h3 b hb).2.2⟩
theorem Zao.cell_ok {s : S} (hs : Sim C g [] s ZaE w) {o i j b : Nat} (h : Zao [] s ZaE w g (.cell o i j) b) : ∃ ob x el c rv arr cap, nth s o = some (some ob) ∧ nth g.obs o = some (some x) ∧ ObR C g w ob x ∧ nth ob.es i = some el ∧ nth el.cells j = some c ∧ c.ownsP ∧
  w.heap[x.2.1]? = some (.cells arr ob.elem (C.fz ob.ver arr.size)) ∧ arr.size = cap * ob.esz ∧ arr[i * ob.esz + j]? = some rv ∧ rv.ownBlock = some b ∧ VR g w c rv ∧ OwnOk C g w c rv := by
 obtain ⟨ob, x, el, sz, es, e, rv, h1, h2, h3, h4, h5, h6⟩ := h
 have hr := hs.at_obj h1 h2
 obtain ⟨arr, cap, c1, _, c3, _, _, _, c6⟩ := hr.blk
 obtain ⟨rv2, r1, r2, r3⟩ := c6 i el j _ h3 h4
 have hrv : rv2 = rv := by
  have := Zap (c1 (hr.real h3 h4)) r1
  rw [this] at h5
  exact Option.some.inj h5
 subst hrv
 exact ⟨ob, x, el, _, rv2, arr, cap, h1, h2, hr, h3, h4, ⟨sz, es, e, rfl⟩, c1 (hr.real h3 h4), c3, r1, h6, r2, r3⟩
theorem Zao.of_cell {s : S} {o i j b : Nat} {ob : Ob} {x : Nat × Nat × Nat × Nat} {el c : V} {rv : Value} (h1 : nth s o = some (some ob)) (h2 : nth g.obs o = some (some x)) (h3 : nth ob.es i = some el) (h4 : nth el.cells j = some c) (h5 : c.ownsP)
  {E : List V} {a : Act} (h6 : w.cell? ⟨x.2.1, i * ob.esz + j, none⟩ = some rv) (h7 : rv.ownBlock = some b) : Zao E s a w g (.cell o i j) b := by
 obtain ⟨sz, es, e, rfl⟩ := h5
 exact ⟨ob, x, el, sz, es, e, rv, h1, h2, h3, h4, h6, h7⟩
theorem Znb {c : V} (h : (rhoC f c).ownsP) : c.ownsP ∧ rhoC f c = c := by
 obtain ⟨sz, es, e, hv⟩ := h
 have := ZcZ hv
 exact ⟨⟨sz, es, e, this⟩, by rw [hv, this]⟩
theorem OwnOk.rhoC {c : V} {rv : Value} (hflat : c.flatCell = true) (h : OwnOk C g w c rv) (hbase : g'.base = g.base) (hb : c.ownsP → ∀ b, rv.ownBlock = some b → OwnSide g g' w w' b) : OwnOk C g' w' (Go.VM.rhoC f c) rv := by
 by_cases ho : (Go.VM.rhoC f c).ownsP
 ·obtain ⟨h1, h2⟩ := Znb ho
  rw [h2]
  exact h.side hbase hb
 ·refine ⟨fun sz es e hv => absurd ⟨sz, es, e, hv⟩ ho, fun cs hv => ?_⟩
  have := Zee (f := f) c
  rw [hv] at this
  cases this
theorem Zgt {ob : Ob} {x : Nat × Nat × Nat × Nat} (hr : ObR C g w ob x) {k j : Nat} {e c : V} (he : nth (ob.rho f).es k = some e) (hc : nth e.cells j = some c) : ∃ e0 c0, nth ob.es k = some e0 ∧ nth e0.cells j = some c0 ∧ c = Go.VM.rhoC f c0 ∧ c0.flatCell = true := by
 obtain ⟨e0, he0, rfl⟩ := Zag he
 rw [Zgk (hr.cells_flat he0)] at hc
 obtain ⟨c0, hc0, rfl⟩ := Zag hc
 exact ⟨e0, c0, he0, hc0, rfl, hr.flat k e0 j c0 he0 hc0⟩
theorem ObR.rho {ob : Ob} {x : Nat × Nat × Nat × Nat} (hr : ObR C g w ob x) (hs : Sub g) (hst : StandsF g g' f) (hbase : g'.base = g.base) (hn : 0 < x.2.2.2 → ¬ g'.susp x.2.1) (himm : 0 < x.2.2.2 → ∀ i, ¬ g'.imm x.2.1 i)
  (hb : ∀ i e j c rv b, nth ob.es i = some e → nth e.cells j = some c → c.ownsP → w.cell? ⟨x.2.1, i * ob.esz + j, none⟩ = some rv → rv.ownBlock = some b → OwnSide g g' w w b) : ObR C g' w (ob.rho f) x := by
 obtain ⟨arr, cap, b1, b2, b3, b4, b5, b7, b6⟩ := hr.blk
 refine { ver := hr.ver, esz := hr.esz, ty := hr.ty, known := hr.known, blk := ⟨arr, cap, b1, b2, b3, b4, by simpa [Ob.rho] using b5, b7, fun k e j c he hc => ?_⟩, sz := fun k e he => ?_, flat := fun k e j c he hc => ?_, base := fun hp => by rw [hbase]; exact hr.base hp, nsusp := hn, nimm := himm }
 ·obtain ⟨e0, c0, q1, q2, rfl, q4⟩ := Zgt hr he hc
  obtain ⟨rv, r1, r2, r3⟩ := b6 k e0 j c0 q1 q2
  exact ⟨rv, r1, r2.rhoC hs hst, r3.rhoC q4 hbase fun ho b hb' => hb k e0 j c0 rv b q1 q2 ho (Zap (b1 (hr.real q1 q2)) r1) hb'⟩
 ·obtain ⟨e0, he0, rfl⟩ := Zag he
  rw [Zgk (hr.cells_flat he0), List.length_map]
  exact hr.sz k e0 he0
 ·obtain ⟨e0, c0, q1, q2, rfl, q4⟩ := Zgt hr he hc
  exact Zee c0
theorem ZkV {ks : List Nat} {s : S} {i : Nat} {ob' : Ob} (h : nth (ZgT ks f s) i = some (some ob')) : ∃ j ob, nth ks i = some j ∧ nth s j = some (some ob) ∧ ob' = ob.rho f := by
 obtain ⟨j, hj, h2⟩ := Zag h
 cases hq : ZiO (nth s j) with
 | none => rw [hq] at h2; cases h2
 | some ob =>
  rw [hq] at h2
  exact ⟨j, ob, hj, Zgi hq, (Option.some.inj h2).symm⟩
theorem ZcK {ks : List Nat} {l : List (Option (Nat × Nat × Nat × Nat))} {i : Nat} {x : Nat × Nat × Nat × Nat} (h : nth (Zmp ks l) i = some (some x)) : ∃ j, nth ks i = some j ∧ nth l j = some (some x) := by
 obtain ⟨j, hj, h2⟩ := Zag h
 exact ⟨j, hj, Zgi h2⟩
theorem Zfl {ks : List Nat} {s : S} {i j : Nat} {ob : Ob} (hj : nth ks i = some j) (ho : nth s j = some (some ob)) : nth (ZgT ks f s) i = some (some (ob.rho f)) := by
 show nth (ks.map _) i = _
 rw [Zc7 hj, ho]
 rfl
theorem Zfg {ks : List Nat} {l : List (Option (Nat × Nat × Nat × Nat))} {i j : Nat} (hj : nth ks i = some j) (hl : j < l.length) : nth (Zmp ks l) i = nth l j := by
 show nth (ks.map _) i = _
 rw [Zc7 hj]
 have : nth l j = some l[j] := by rw [Zac, List.getElem?_eq_getElem hl]
 rw [this]
 cases l[j] <;> rfl
theorem Sim.select {s : S} (hs : Sim C g [] s ZaE w) {ks : List Nat} (hd : Za1 ks = true) (hf : ∀ j i, f j = some i → nth ks i = some j) (M : Nat → Prop)
  (hM : ∀ b, M b → b < w.heap.size) (hMo : ∀ i j x, nth ks i = some j → nth g.obs j = some (some x) → 0 < x.2.2.2 → ¬ M x.2.1) (hMr : ∀ i j a c b, nth ks i = some j → Zao [] s ZaE w g (.cell j a c) b → ¬ M b) :
  Sim C { g with obs := Zmp ks g.obs, susp := fun b => g.susp b ∨ M b } [] (ZgT ks f s) ZaE w ∧ StandsF g { g with obs := Zmp ks g.obs, susp := fun b => g.susp b ∨ M b } f := by
 have hst : StandsF g { g with obs := Zmp ks g.obs, susp := fun b => g.susp b ∨ M b } f := by
  refine ⟨fun _ _ h => h, fun _ _ h => h, fun i i' hi h => ?_⟩
  have hk := hf i i' h
  exact ⟨by show _ < (Zmp ks g.obs).length; simp only [Zmp, List.length_map]; exact Zat hk, Zfg hk hi⟩
 refine ⟨{ len := rfl, env := fun t v hv => by simp [nth] at hv, olen := by simp [Zmp, ZgT], obj := fun i ob' ho => ?_, gone := fun i x hx => ?_, inj := fun i i' x x' hx hx' hp hp' he => ?_, own := fun p q b hp hq => ?_, sub := hs.sub, immlt := hs.immlt, basele := hs.basele, susplt := fun b hb => ?_ }, hst⟩
 ·obtain ⟨j, ob, hj, ho2, rfl⟩ := ZkV ho
  obtain ⟨x, hx, hr⟩ := hs.obj j ob ho2
  refine ⟨x, (Zfg hj (Zat hx)).trans hx, hr.rho hs.sub hst rfl ?_ hr.nimm fun i e k c rv b q1 q2 q3 q4 q5 => ?_⟩
  ·rintro hp (h | h)
   ·exact hr.nsusp hp h
   ·exact hMo i j x hj hx hp h
  ·refine ⟨rfl, fun h => ?_, fun _ h => h, fun o' x' hx' _ _ => ?_⟩
   ·rcases h with h | h
    ·exact h
    ·exact absurd h (hMr _ j i k b hj (Zao.of_cell ho2 hx q1 q2 q3 q4 q5))
   ·obtain ⟨j', _, hj'⟩ := ZcK hx'
    exact ⟨j', hj'⟩
 ·obtain ⟨j, hj, hx2⟩ := ZcK hx
  obtain ⟨ob, hob⟩ := hs.gone j x hx2
  exact ⟨_, Zfl hj hob⟩
 ·obtain ⟨j, hj, hx2⟩ := ZcK hx
  obtain ⟨j', hj', hx2'⟩ := ZcK hx'
  have := hs.inj j j' x x' hx2 hx2' hp hp' he
  subst this
  exact ZbL hd hj hj'
 ·have key : ∀ {i a c b}, Zao [] (ZgT ks f s) ZaE w { g with obs := Zmp ks g.obs, susp := fun b => g.susp b ∨ M b } (.cell i a c) b → ∃ j, nth ks i = some j ∧ Zao [] s ZaE w g (.cell j a c) b := by
   intro i a c b hp
   obtain ⟨ob', x, el, sz, es, e, rv, h1, h2, h3, h4, h5, h6⟩ := hp
   obtain ⟨j, ob, hj, ho2, rfl⟩ := ZkV h1
   obtain ⟨j', hj', hx2⟩ := ZcK h2
   obtain rfl := Option.some.inj (hj.symm.trans hj')
   have hr := hs.at_obj ho2 hx2
   obtain ⟨e0, c0, q1, q2, q3, q4⟩ := Zgt hr h3 h4
   exact ⟨j, hj, ob, x, e0, sz, es, e, rv, ho2, hx2, q1, by rw [q2, ZcZ q3.symm], h5, h6⟩
  cases p with
  | slot t => obtain ⟨sz, es, e, rv, h1, _⟩ := hp; simp [nth] at h1
  | cell i1 a1 c1 =>
   cases q with
   | slot t => obtain ⟨sz, es, e, rv, h1, _⟩ := hq; simp [nth] at h1
   | cell i2 a2 c2 =>
    obtain ⟨j1, hj1, o1⟩ := key hp
    obtain ⟨j2, hj2, o2⟩ := key hq
    have := hs.own _ _ b o1 o2
    injection this with e1 e2 e3
    subst e1 e2 e3
    rw [ZbL hd hj1 hj2]
 ·rcases hb with h | h
  ·exact hs.susplt b h
  ·exact hM b h
end
end Go.VM
