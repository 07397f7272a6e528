/- A call that sees one object alone: what it does stands in any state with that object. -/
import Derived.Test.YtjbalmhcpkehnaaVmZ
set_option linter.unusedSimpArgs false
set_option linter.unusedVariables false
namespace Go.VM
open Go.RowKit Go.Lib
def Zbi : V → Bool
 | .arr .. => false
 | .ptr .. => false
 | .agg _ => false
 | .tuple _ => false
 | .cptr _ => false
 | .fn _ caps => caps.isEmpty
 | _ => true
def V.noRef : V → Bool
 | .agg cs => cs.all Zbi
 | v => Zbi v
def Zfy (o n : Nat) : Nat → Nat
 | 0 => o
 | i + 1 => n + i
def renCell (o n : Nat) : V → V
 | .arr i ver off len => .arr (Zfy o n i) ver off len
 | .ptr i ver a b => .ptr (Zfy o n i) ver a b
 | .agg _ => .dead
 | .tuple _ => .dead
 | .cptr _ => .dead
 | .fn f caps => (match caps with
  | [] => .fn f []
  | _ :: _ => .dead)
 | v => v
def ren1 (o n : Nat) : V → V
 | .agg cs => .agg (cs.map (renCell o n))
 | v => renCell o n v
def V.ren (o n : Nat) : V → V
 | .tuple vs => .tuple (vs.map (ren1 o n))
 | v => ren1 o n v
def Ob.ren (o n : Nat) (ob : Ob) : Ob := { ob with es := ob.es.map (ren1 o n) }
def ZcI (S : S) (o : Nat) (s' : Go.VM.S) : Go.VM.S :=
 match s' with
 | [] => S
 | x :: news => ZaC S o (x.map (Ob.ren o S.length)) ++ news.map (Option.map (Ob.ren o S.length))
theorem ZdN.mono {P : Program} {f : FuncId} {rvs : Array Value} {w : World} {T T' : Value → World → Prop} (h : ZdN P f rvs w T) (ht : ∀ v w', T v w' → T' v w') : ZdN P f rvs w T' :=
 fun o a next Q hn => h o a next Q fun v w' hv => hn v w' (ht v w' hv)
section
variable {P : Program} {C : Cfg} {g g1 : G} {w : World}
theorem DR.to (hs : Sub g) (h1 : ∀ b i, g.imm b i → g1.imm b i) (h2 : ∀ b i, g.safe b i → g1.safe b i) {l : Bool} {v : V} {rv : Value} (h : DR g w l v rv) : DR g1 w l v rv :=
 h.keeps (g' := g1) hs ⟨h1, h2, fun _ _ _ => rfl⟩
theorem VR.noRefCell_to (hs : Sub g) (h1 : ∀ b i, g.imm b i → g1.imm b i) (h2 : ∀ b i, g.safe b i → g1.safe b i) {v : V} {rv : Value} (hn : Zbi v = true) (h : VR g w v rv) : VR g1 w v rv := by
 cases h with
 | data h => exact .data (h.to hs h1 h2)
 | fn f cs vs hl hc =>
  obtain rfl : cs = [] := by simpa [Zbi] using hn
  obtain rfl : vs = [] := List.eq_nil_of_length_eq_zero (by simpa using hl.symm)
  exact .fn f [] [] rfl fun i c v h1 => by simp [nth] at h1
 | dead rv => exact .dead rv
 | _ => simp [Zbi] at hn
theorem VR.noRef_to (hs : Sub g) (h1 : ∀ b i, g.imm b i → g1.imm b i) (h2 : ∀ b i, g.safe b i → g1.safe b i) {v : V} {rv : Value} (hn : v.noRef = true) (h : VR g w v rv) : VR g1 w v rv := by
 by_cases hag : ∃ cs, v = .agg cs
 ·obtain ⟨cs, rfl⟩ := hag
  obtain ⟨vs, rfl, hl, hc⟩ := h.agg_inv
  refine .agg cs vs hl fun i c u q1 q2 => ?_
  have : Zbi c = true := List.all_eq_true.1 hn c (List.mem_of_getElem? (by rw [← Zac]; exact q1))
  exact (hc i c u q1 q2).noRefCell_to hs h1 h2 this
 ·have : Zbi v = true := by
   cases v <;> first | exact hn | exact absurd ⟨_, rfl⟩ hag
  exact h.noRefCell_to hs h1 h2 this
structure Stands (g g1 : G) (o n : Nat) : Prop where
 imm : ∀ b i, g.imm b i → g1.imm b i
 safe : ∀ b i, g.safe b i → g1.safe b i
 lt : ∀ i, i < g.obs.length → Zfy o n i < g1.obs.length
 at_ : ∀ i, i < g.obs.length → nth g1.obs (Zfy o n i) = nth g.obs i
variable {o n : Nat}
theorem VR.renCell (hs : Sub g) (hst : Stands g g1 o n) {v : V} {rv : Value} (h : VR g w v rv) : VR g1 w (Go.VM.renCell o n v) rv := by
 have dat : ∀ v rv, DR g w false v rv → VR g1 w (Go.VM.renCell o n v) rv := by
  intro v rv h
  cases h with
  | bool b => exact .data (.bool b)
  | int k m => exact .data (.int k m)
  | str s => exact .data (.str s)
  | nilp => exact .data .nilp
  | nilf => exact .data .nilf
  | nili => exact .data .nili
  | nils => exact .data .nils
  | fn f => exact .data (.fn f)
  | agg cs vs hl h => exact .dead _
  | tuple cs vs hl h => exact .dead _
  | list esz es f A m c b off cv hn hc hl hA hsz hf ho hw hd => exact .data ((DR.list esz es f A m c b off cv hn hc hl hA hsz hf ho hw hd).to hs hst.imm hst.safe)
 cases h with
 | data h => exact dat _ _ h
 | ptr i ver a b ad hi h => exact .ptr _ ver a b ad (hst.lt i hi) fun x hx => h x ((hst.at_ i hi).symm.trans hx)
 | arr i ver off len A c hc hi h => exact .arr _ ver off len A c hc (hst.lt i hi) fun x hx => h x ((hst.at_ i hi).symm.trans hx)
 | cptr cs b off cv ho hw hd => exact .dead _
 | agg cs vs hl h => exact .dead _
 | tuple cs vs hl h => exact .dead _
 | fn f cs vs hl h =>
  cases cs with
  | nil =>
   obtain rfl : vs = [] := List.eq_nil_of_length_eq_zero (by simpa using hl.symm)
   exact .fn f [] [] rfl fun i c v h1 => by simp [nth] at h1
  | cons => exact .dead _
 | dead rv => exact .dead _
theorem VR.ren1 (hs : Sub g) (hst : Stands g g1 o n) {v : V} {rv : Value} (h : VR g w v rv) : VR g1 w (Go.VM.ren1 o n v) rv := by
 by_cases hag : ∃ cs, v = .agg cs
 ·obtain ⟨cs, rfl⟩ := hag
  obtain ⟨vs, rfl, hl, hc⟩ := h.agg_inv
  refine .agg _ vs (by simp [hl]) fun i c u q1 q2 => ?_
  obtain ⟨c0, hc0, rfl⟩ := Zag q1
  exact (hc i c0 u hc0 q2).renCell hs hst
 ·have : Go.VM.ren1 o n v = Go.VM.renCell o n v := by
   cases v <;> first | rfl | exact absurd ⟨_, rfl⟩ hag
  rw [this]
  exact h.renCell hs hst
theorem VR.ren (hs : Sub g) (hst : Stands g g1 o n) {v : V} {rv : Value} (h : VR g w v rv) : VR g1 w (v.ren o n) rv := by
 by_cases hag : ∃ cs, v = .tuple cs
 ·obtain ⟨cs, rfl⟩ := hag
  obtain ⟨vs, rfl, hl, hc⟩ := h.tuple_inv
  refine .tuple _ vs (by simp [hl]) fun i c u q1 q2 => ?_
  obtain ⟨c0, hc0, rfl⟩ := Zag q1
  exact (hc i c0 u hc0 q2).ren1 hs hst
 ·have : v.ren o n = Go.VM.ren1 o n v := by
   cases v <;> first | rfl | exact absurd ⟨_, rfl⟩ hag
  rw [this]
  exact h.ren1 hs hst
theorem Zco {v : V} {sz : Nat} {es : List V} {f : Fl} (h : renCell o n v = .list sz es f) : v = .list sz es f := by
 cases v <;> simp only [renCell] at h <;> first | exact h | (cases h; done) | skip
 split at h <;> cases h
theorem ZmC {v : V} {sz : Nat} {es : List V} {f : Fl} (h : ren1 o n v = .list sz es f) : v = .list sz es f := by
 cases v <;> simp only [ren1] at h <;> first | exact Zco h | cases h
theorem Zf8 {v : V} (hv : v.flatCell = true ∨ ∃ cs, v = .agg cs) : (ren1 o n v).cells = v.cells.map (renCell o n) := by
 cases v with
 | tuple vs => rcases hv with h | ⟨cs, h⟩ <;> cases h
 | fn f caps => cases caps <;> rfl
 | _ => rfl
theorem ZeB (v : V) : (renCell o n v).flatCell = true := by
 cases v <;> first | rfl | skip
 rename_i f caps
 cases caps <;> rfl
theorem Zns {v : V} (h : v.still) : (v.ren o n).still := by
 refine ⟨fun sz es e hv => ?_, fun cs hv i sz es e hc => ?_⟩
 ·have : v = .list sz es (.own e) := by
   cases v with
   | tuple vs => cases hv
   | _ => exact ZmC (o := o) (n := n) hv
  exact h.1 sz es e this
 ·obtain ⟨cs0, rfl, hv2⟩ : ∃ cs0, v = .agg cs0 ∧ cs = cs0.map (renCell o n) := by
   cases v with
   | agg cs0 => simp only [V.ren, ren1] at hv; injection hv with hv; exact ⟨cs0, rfl, hv.symm⟩
   | fn f caps => cases caps <;> cases hv
   | _ => cases hv
  clear hv
  subst hv2
  obtain ⟨c0, hc0, he⟩ := Zag hc
  have := Zco he
  subst this
  exact h.2 cs0 rfl i sz es e hc0
theorem Zcm {α : Type} {l : List α} {k : Nat} {a : α} (h : k < l.length) : nth (ZaC l k a) k = some a := by
 rw [Zac, Za2, List.getElem?_set]; simp [h]
theorem ObR.cells_flat {ob : Ob} {x : Nat × Nat × Nat × Nat} (hr : ObR C g w ob x) {i : Nat} {e : V} (he : nth ob.es i = some e) : e.flatCell = true ∨ ∃ cs, e = .agg cs := by
 by_cases hag : ∃ cs, e = .agg cs
 ·exact .inr hag
 ·have hce : e.cells = [e] := Zbc fun cs hc => hag ⟨cs, hc⟩
  exact .inl (hr.flat i e 0 e he (by rw [hce]; rfl))
theorem Za4.frame {f : FuncId} {S : S} {ob : Ob} (hS : nth S o = some (some ob)) (hob : ∀ i e j c, nth ob.es i = some e → nth e.cells j = some c → Zbi c = true)
  {as0 as : List V} {v : V} {s' : Go.VM.S} (hlen : as0.length = as.length) (has : ∀ i a0 a, nth as0 i = some a0 → nth as i = some a → (a0 = a ∧ a.noRef = true) ∨ ∃ ver i j, a0 = .ptr 0 ver i j ∧ a = .ptr o ver i j)
  (h : Za4 P C f as0 [some ob] v s') : Za4 P C f as S (v.ren o S.length) (ZcI S o s') := by
 obtain ⟨hst, hsl, hcall⟩ := h
 have hoS : o < S.length := Zat hS
 obtain ⟨y, news, rfl⟩ : ∃ y news, s' = y :: news := by
  cases s' with
  | nil => simp at hsl
  | cons y news => exact ⟨y, news, rfl⟩
 have hSl : (ZcI S o (y :: news)).length = S.length + news.length := by simp [ZcI, Zah]
 refine ⟨Zns hst, by rw [hSl]; omega, fun g w rvs keep hk hs hrl hargs => ?_⟩
 obtain ⟨x0, hx0, hr0⟩ := hs.obj o ob hS
 let fr : Nat → Prop := fun b => (∃ o' x, o' ≠ o ∧ nth g.obs o' = some (some x) ∧ 0 < x.2.2.2 ∧ x.2.1 = b) ∨ ∃ o' i j, o' ≠ o ∧ Zao [] S ZaE w g (.cell o' i j) b
 let g1 : G := { base := g.base, imm := g.imm, safe := g.safe, susp := fun b => g.susp b ∨ fr b, obs := [some x0] }
 have obs1 : ∀ i x, nth g1.obs i = some (some x) → i = 0 ∧ x = x0 := by
  intro i x hx
  cases i with
  | zero => exact ⟨rfl, (Option.some.inj (Option.some.inj hx)).symm⟩
  | succ i => simp [g1, nth] at hx
 have s1 : ∀ i o1, nth [some ob] i = some (some o1) → i = 0 ∧ o1 = ob := by
  intro i o1 hx
  cases i with
  | zero => exact ⟨rfl, (Option.some.inj (Option.some.inj hx)).symm⟩
  | succ i => simp [nth] at hx
 have own1 : ∀ i j b, Zao [] [some ob] ZaE w g1 (.cell 0 i j) b → Zao [] S ZaE w g (.cell o i j) b := by
  intro i j b hp
  obtain ⟨ob', x, el, sz, es, e, rv, h1, h2, h3, h4, h5, h6⟩ := hp
  obtain ⟨_, rfl⟩ := s1 _ _ h1
  obtain ⟨_, rfl⟩ := obs1 _ _ h2
  exact ⟨_, _, el, sz, es, e, rv, hS, hx0, h3, h4, h5, h6⟩
 have hsmall : Sim C g1 [] [some ob] ZaE w := by
  refine { len := rfl, env := fun t v hv => by simp [nth] at hv, olen := rfl, obj := fun o' ob' ho => ?_, gone := fun o' x hx => ?_, inj := fun a b xa xb ha hb _ _ _ => by rw [(obs1 _ _ ha).1, (obs1 _ _ hb).1], own := fun p q b hp hq => ?_, sub := hs.sub, immlt := hs.immlt, basele := hs.basele, susplt := fun b hb => ?_ }
  ·obtain ⟨rfl, rfl⟩ := s1 _ _ ho
   refine ⟨x0, rfl, ?_⟩
   obtain ⟨arr, cap, b1, b2, b3, b4, b5, b7, b6⟩ := hr0.blk
   refine { ver := hr0.ver, esz := hr0.esz, ty := hr0.ty, known := hr0.known, blk := ⟨arr, cap, b1, b2, b3, b4, b5, b7, fun i e j c he hc => ?_⟩, sz := hr0.sz, flat := hr0.flat, base := hr0.base, nsusp := ?_, nimm := hr0.nimm }
   ·obtain ⟨rv, r1, r2, r3⟩ := b6 i e j c he hc
    refine ⟨rv, r1, r2.noRefCell_to (g1 := g1) hs.sub (fun _ _ h => h) (fun _ _ h => h) (hob i e j c he hc), ⟨fun sz es t hv => ?_, r3.agg⟩⟩
    obtain ⟨q1, q2, q3, q4⟩ := r3.own sz es t hv
    refine ⟨q1, q2, fun b hb => ⟨?_, (q3 b hb).2.1, fun o' x hx hp => ?_⟩, q4⟩
    ·rintro (hsb | ⟨o', x, hne, hx, hp, hxb⟩ | ⟨o', i', j', hne, hown⟩)
     ·exact (q3 b hb).1 hsb
     ·exact (q3 b hb).2.2 o' x hx hp hxb
     ·have hme : Zao [] S ZaE w g (.cell o i j) b := by
       subst hv
       refine ⟨ob', x0, e, sz, es, t, rv, hS, hx0, he, hc, ?_, hb⟩
       rw [← hr0.esz]
       rw [hr0.esz]
       exact Zap (b1 (hr0.real he hc)) r1
      have := hs.own _ _ b hown hme
      injection this with h1
      exact hne h1
    ·obtain ⟨rfl, rfl⟩ := obs1 _ _ hx
     exact (q3 b hb).2.2 o _ hx0 hp
   ·rintro hp0 (hsb | ⟨o', x, hne, hx, hp, hxb⟩ | ⟨o', i', j', hne, hown⟩)
    ·exact hr0.nsusp hp0 hsb
    ·exact hne (hs.inj o' o x x0 hx hx0 hp hp0 hxb)
    ·obtain ⟨ob2, x2, el, sz, es, e, rv, h1, h2, h3, h4, h5, h6⟩ := hown
     obtain ⟨x3, hx3, hr3⟩ := hs.obj o' ob2 h1
     obtain ⟨arr2, cap2, c1, _, _, _, _, _, c6⟩ := hr3.blk
     obtain ⟨rv2, r1, r2, r3⟩ := c6 i' el j' _ h3 h4
     have hxx : x3 = x2 := Option.some.inj (Option.some.inj (hx3.symm.trans h2))
     subst hxx
     have hrv : rv2 = rv := by
      have := Zap (c1 (hr3.real h3 h4)) r1
      rw [this] at h5
      exact Option.some.inj h5
     subst hrv
     exact ((r3.own sz es e rfl).2.2.1 _ h6).2.2 o x0 hx0 hp0 rfl
  ·obtain ⟨rfl, rfl⟩ := obs1 _ _ hx
   exact ⟨ob, rfl⟩
  ·cases p with
   | slot t => obtain ⟨sz, es, e, rv, h1, _⟩ := hp; simp [nth] at h1
   | cell o1 i j =>
    cases q with
    | slot t => obtain ⟨sz, es, e, rv, h1, _⟩ := hq; simp [nth] at h1
    | cell o2 i2 j2 =>
     have e1 : o1 = 0 := by obtain ⟨_, _, _, _, _, _, _, h1, _⟩ := hp; exact (s1 _ _ h1).1
     have e2 : o2 = 0 := by obtain ⟨_, _, _, _, _, _, _, h1, _⟩ := hq; exact (s1 _ _ h1).1
     subst e1 e2
     have := hs.own _ _ b (own1 _ _ _ hp) (own1 _ _ _ hq)
     injection this with _ h2 h3
     rw [h2, h3]
  ·rcases hb with hsb | ⟨o', x, hne, hx, hp, rfl⟩ | ⟨o', i', j', hne, hown⟩
   ·exact hs.susplt b hsb
   ·obtain ⟨ob2, hob2⟩ := hs.gone o' x hx
    obtain ⟨arr, cap, b1, _⟩ := (hs.at_obj hob2 hx).blk
    exact ZaN (b1 hp)
   ·obtain ⟨ob2, x2, el, sz, es, e, rv, h1, h2, h3, h4, h5, h6⟩ := hown
    obtain ⟨arr2, cap2, c1, _, _, _, _, _, c6⟩ := (hs.at_obj h1 h2).blk
    obtain ⟨rv2, r1, r2, r3⟩ := c6 i' el j' _ h3 h4
    obtain ⟨_, ⟨xs, hxs⟩, _⟩ := r3.own sz es e rfl
    have hrv : rv2 = rv := by
     have := Zap (c1 ((hs.at_obj h1 h2).real h3 h4)) r1
     rw [this] at h5
     exact Option.some.inj h5
    subst hrv
    exact (ZaL hxs h6).1
 have hargs1 : ∀ (i : Nat) (c : V) (rv : Value), nth as0 i = some c → rvs[i]? = some rv → VR g1 w c rv ∧ c.still := by
  intro i c rv hc hr
  have hia : i < as.length := by rw [← hlen]; exact Zat hc
  have ha : nth as i = some as[i] := by rw [Zac, List.getElem?_eq_getElem hia]
  obtain ⟨h1, h2⟩ := hargs i _ rv ha hr
  rcases has i c _ hc ha with ⟨e1, e2⟩ | ⟨ver, a, b, e1, e2⟩
  ·rw [e1]
   exact ⟨h1.noRef_to (g1 := g1) hs.sub (fun _ _ h => h) (fun _ _ h => h) e2, h2⟩
  ·subst e1
   rw [e2] at h1
   refine ⟨?_, by simp [V.still]⟩
   cases h1 with
   | data h => cases h
   | ptr _ _ _ _ ad hi hh => exact .ptr 0 ver a b ad (by simp [g1]) fun x hx => (by rw [(obs1 _ _ hx).2]; exact hh _ hx0)
 refine (hcall g1 w rvs 1 (by simp) hsmall (by rw [hlen]; exact hrl) hargs1).mono fun rv w' hw => ?_
 obtain ⟨g1', hle, hs', hv⟩ := hw
 have hol := hs'.olen
 obtain ⟨z, zs, hz⟩ : ∃ z zs, g1'.obs = z :: zs := by
  cases hq : g1'.obs with
  | nil => rw [hq] at hol; simp at hol
  | cons z zs => exact ⟨z, zs, rfl⟩
 have hzl : zs.length = news.length := by rw [hz] at hol; simpa using hol
 have hog : g.obs.length = S.length := hs.olen
 let g' : G := { base := g.base, imm := g1'.imm, safe := g1'.safe, susp := g.susp, obs := ZaC g.obs o z ++ zs }
 have hfr : ∀ b, fr b → w'.heap[b]? = w.heap[b]? ∧ (∀ i, g1'.imm b i → g.imm b i) ∧ ∀ i, g1'.safe b i → g.safe b i := fun b hb => hle.sus b (.inr hb)
 have hsusp : ∀ b, g1'.susp b ↔ g.susp b ∨ fr b := fun b => hle.susp b
 have atfr : ∀ q, q < S.length → q ≠ o → nth g'.obs q = nth g.obs q := by
  intro q hq hne
  show nth (ZaC g.obs o z ++ zs) q = _
  rw [Zai (by rw [Zah, hog]; exact hq), Zan (Ne.symm hne)]
 have ato : nth g'.obs o = some z := by
  show nth (ZaC g.obs o z ++ zs) o = _
  rw [Zai (by rw [Zah, hog]; exact hoS), Zcm (by rw [hog]; exact hoS)]
 have atnew : ∀ i, nth g'.obs (S.length + i) = nth zs i := by
  intro i
  show nth (ZaC g.obs o z ++ zs) _ = _
  rw [ZaF (by rw [Zah, hog]; omega), Zah, hog]
  congr 1
  omega
 have stands : Stands g1' g' o S.length := by
  refine ⟨fun _ _ h => h, fun _ _ h => h, fun i hi => ?_, fun i hi => ?_⟩
  ·show _ < (ZaC g.obs o z ++ zs).length
   rw [List.length_append, Zah, hog]
   rw [hz] at hi
   simp only [List.length_cons] at hi
   cases i with
   | zero => simp only [Zfy]; omega
   | succ i => simp only [Zfy]; omega
  ·rw [hz]
   cases i with
   | zero => exact ato
   | succ i => exact atnew i
 have cases_obs : ∀ q x, nth g'.obs q = some (some x) → (q < S.length ∧ q ≠ o ∧ nth g.obs q = some (some x)) ∨ ∃ i, q = Zfy o S.length i ∧ nth g1'.obs i = some (some x) := by
  intro q x hx
  by_cases hq : q < S.length
  ·by_cases hqo : q = o
   ·subst hqo
    right
    refine ⟨0, rfl, ?_⟩
    rw [hz]
    rw [ato] at hx
    exact hx
   ·rw [atfr q hq hqo] at hx
    exact .inl ⟨hq, hqo, hx⟩
  ·right
   obtain ⟨i, rfl⟩ : ∃ i, q = S.length + i := ⟨q - S.length, by omega⟩
   rw [atnew i] at hx
   refine ⟨i + 1, rfl, ?_⟩
   rw [hz]
   exact hx
 have cases_S : ∀ q ob2, nth (ZcI S o (y :: news)) q = some (some ob2) → (q < S.length ∧ q ≠ o ∧ nth S q = some (some ob2)) ∨ ∃ i ob1, q = Zfy o S.length i ∧ nth (y :: news) i = some (some ob1) ∧ ob2 = ob1.ren o S.length := by
  intro q ob2 hx
  simp only [ZcI] at hx
  by_cases hq : q < S.length
  ·rw [Zai (by rw [Zah]; exact hq)] at hx
   by_cases hqo : q = o
   ·subst hqo
    rw [Zcm hoS] at hx
    cases y with
    | none => cases hx
    | some ob1 => exact .inr ⟨0, ob1, rfl, rfl, (Option.some.inj (Option.some.inj hx)).symm⟩
   ·rw [Zan (Ne.symm hqo)] at hx
    exact .inl ⟨hq, hqo, hx⟩
  ·obtain ⟨i, rfl⟩ : ∃ i, q = S.length + i := ⟨q - S.length, by omega⟩
   rw [ZaF (by rw [Zah]; omega), Zah, show S.length + i - S.length = i by omega] at hx
   obtain ⟨u, hu, he⟩ := Zag hx
   cases u with
   | none => cases he
   | some ob1 => exact .inr ⟨i + 1, ob1, rfl, hu, (Option.some.inj he).symm⟩
 have keeps : Keeps g w g' w' := ⟨hle.keeps.imm, hle.keeps.safe, hle.keeps.cell⟩
 have obsle : ObsLe g g' := by
  refine ⟨by show _ ≤ (ZaC g.obs o z ++ zs).length; rw [List.length_append, Zah]; omega, fun q hq x' hx' => ?_⟩
  rw [hog] at hq
  by_cases hqo : q = o
  ·subst hqo
   have hx1 : nth g1'.obs 0 = some (some x') := by rw [hz]; rw [ato] at hx'; exact hx'
   obtain ⟨x, hx, h1, h2⟩ := hle.obs 0 (by omega) x' hx1
   obtain ⟨_, rfl⟩ := obs1 _ _ hx
   exact ⟨_, hx0, h1, h2⟩
  ·rw [atfr q hq hqo] at hx'
   exact ⟨x', hx', Nat.le_refl _, fun _ => rfl⟩
 have le : Le keep g w g' w' := {
  keeps := keeps
  size := hle.size
  os := hle.os
  tape := hle.tape
  output := hle.output
  base := rfl
  susp := fun _ => Iff.rfl
  low := fun b hb => hle.low b hb
  sus := fun b hb => hle.sus b (.inl hb)
  klen := by show _ ≤ (ZaC g.obs o z ++ zs).length; rw [List.length_append, Zah]; omega
  obs := fun q hq x' hx' => obsle.at_ q (by omega) x' hx' }
 have frblk : ∀ q x, q < S.length → q ≠ o → nth g.obs q = some (some x) → 0 < x.2.2.2 → fr x.2.1 := fun q x _ hne hx hp => .inl ⟨q, x, hne, hx, hp, rfl⟩
 have newns : ∀ i x, nth g1'.obs i = some (some x) → 0 < x.2.2.2 → ¬ fr x.2.1 := by
  intro i x hx hp hf
  obtain ⟨ob1, hob1⟩ := hs'.gone i x hx
  exact (hs'.at_obj hob1 hx).nsusp hp ((hsusp _).2 (.inr hf))
 have ownfr : ∀ q i j b, q ≠ o → Zao [] S ZaE w g (.cell q i j) b → fr b := fun q i j b hne h => .inr ⟨q, i, j, hne, h⟩
 have cellR : ∀ {ob1 : Ob} {i : Nat} {e c : V} {k j : Nat} {x : Nat × Nat × Nat × Nat}, ObR C g1' w' ob1 x → nth (ob1.ren o S.length).es k = some e → nth e.cells j = some c → ∃ e0 c0, nth ob1.es k = some e0 ∧ nth e0.cells j = some c0 ∧ c = Go.VM.renCell o S.length c0 ∧ c0.flatCell = true := by
  intro ob1 i e c k j x hr he hc
  obtain ⟨e0, he0, rfl⟩ := Zag he
  rw [Zf8 (hr.cells_flat he0)] at hc
  obtain ⟨c0, hc0, rfl⟩ := Zag hc
  exact ⟨e0, c0, he0, hc0, rfl, hr.flat k e0 j c0 he0 hc0⟩
 refine ⟨g', le, ?_, hv.ren hs'.sub stands⟩
 have objR : ∀ q ob2, nth (ZcI S o (y :: news)) q = some (some ob2) → ∃ x, nth g'.obs q = some (some x) ∧ ObR C g' w' ob2 x := by
  intro q ob2 ho2
  rcases cases_S q ob2 ho2 with ⟨hq, hqo, hq2⟩ | ⟨i, ob1, rfl, h1, rfl⟩
  ·obtain ⟨x, hx, hr⟩ := hs.obj q ob2 hq2
   refine ⟨x, by rw [atfr q hq hqo]; exact hx, ?_⟩
   have hb := fun hp => hfr _ (frblk q x hq hqo hx hp)
   obtain ⟨arr, cap, b1, b2, b3, b4, b5, b7, b6⟩ := hr.blk
   refine { ver := hr.ver, esz := hr.esz, ty := hr.ty, known := hr.known, blk := ⟨arr, cap, fun hp => by rw [(hb hp).1]; exact b1 hp, b2, b3, b4, b5, b7, fun i e j c he hc => ?_⟩, sz := hr.sz, flat := hr.flat, base := hr.base, nsusp := hr.nsusp, nimm := fun hp i hi => hr.nimm hp i ((hb hp).2.1 i hi) }
   obtain ⟨rv, r1, r2, r3⟩ := b6 i e j c he hc
   refine ⟨rv, r1, r2.keeps hs.sub keeps obsle, ⟨fun sz es t hv => ?_, r3.agg⟩⟩
   obtain ⟨q1, ⟨xs, q2⟩, q3, q4⟩ := r3.own sz es t hv
   have own : ∀ b, rv.ownBlock = some b → fr b := fun b hb => by
    refine ownfr q i j b hqo ?_
    subst hv
    exact ⟨ob2, x, e, sz, es, t, rv, hq2, hx, he, hc, Zap (b1 (hr.real he hc)) r1, hb⟩
   refine ⟨q1, ⟨xs, ZaT q2 fun b hb' => (hfr b (own b hb')).1⟩, fun b hb' => ⟨(q3 b hb').1, fun i hi him => (q3 b hb').2.1 i hi ((hfr b (own b hb')).2.1 i him), fun q' x' hx' hp hxb => ?_⟩, q4⟩
   rcases cases_obs q' x' hx' with ⟨_, _, hx2⟩ | ⟨i', _, hx2⟩
   ·exact (q3 b hb').2.2 q' x' hx2 hp hxb
   ·exact newns i' x' hx2 hp (by rw [hxb]; exact own b hb')
  ·obtain ⟨x, hx, hr⟩ := hs'.obj i ob1 h1
   have hil : i < g1'.obs.length := Zat hx
   refine ⟨x, by rw [stands.at_ i hil]; exact hx, ?_⟩
   obtain ⟨arr, cap, b1, b2, b3, b4, b5, b7, b6⟩ := hr.blk
   refine { ver := hr.ver, esz := hr.esz, ty := hr.ty, known := hr.known, blk := ⟨arr, cap, b1, b2, b3, b4, by simpa [Ob.ren] using b5, b7, fun k e j c he hc => ?_⟩, sz := fun k e he => ?_, flat := fun k e j c he hc => ?_, base := fun hp => by have := hr.base hp; rw [hle.base] at this; exact this, nsusp := fun hp h => hr.nsusp hp ((hsusp _).2 (.inl h)), nimm := hr.nimm }
   ·obtain ⟨e0, c0, q1, q2, rfl, q4⟩ := cellR (i := i) hr he hc
    obtain ⟨rv, r1, r2, r3⟩ := b6 k e0 j c0 q1 q2
    refine ⟨rv, r1, r2.renCell hs'.sub stands, ⟨fun sz es t hv => ?_, fun cs hv => ?_⟩⟩
    ·have hc0 := Zco hv
     obtain ⟨p1, ⟨xs, p2⟩, p3, p4⟩ := r3.own sz es t hc0
     refine ⟨p1, ⟨xs, ?_⟩, fun b hb' => ⟨fun h => (p3 b hb').1 ((hsusp _).2 (.inl h)), (p3 b hb').2.1, fun q' x' hx' hp hxb => ?_⟩, p4⟩
     ·have := p2
      rw [hle.base] at this
      exact this
     ·rcases cases_obs q' x' hx' with ⟨a1, a2, hx2⟩ | ⟨i', _, hx2⟩
      ·exact (p3 b hb').1 ((hsusp _).2 (.inr (by rw [← hxb]; exact frblk q' x' a1 a2 hx2 hp)))
      ·exact (p3 b hb').2.2 i' x' hx2 hp hxb
    ·have := ZeB (o := o) (n := S.length) c0
     rw [hv] at this
     cases this
   ·obtain ⟨e0, he0, rfl⟩ := Zag he
    rw [Zf8 (hr.cells_flat he0), List.length_map]
    exact hr.sz k e0 he0
   ·obtain ⟨e0, c0, q1, q2, rfl, q4⟩ := cellR (i := i) hr he hc
    exact ZeB c0
 have ownR : ∀ q k j b, Zao [] (ZcI S o (y :: news)) ZaE w' g' (.cell q k j) b → (q ≠ o ∧ Zao [] S ZaE w g (.cell q k j) b) ∨ ∃ i, q = Zfy o S.length i ∧ Zao [] (y :: news) ZaE w' g1' (.cell i k j) b := by
  intro q k j b hp
  obtain ⟨ob2, x, el, sz, es, e, rv, h1, h2, h3, h4, h5, h6⟩ := hp
  rcases cases_S q ob2 h1 with ⟨hq, hqo, hq2⟩ | ⟨i, ob1, rfl, hi, rfl⟩
  ·rw [atfr q hq hqo] at h2
   refine .inl ⟨hqo, ob2, x, el, sz, es, e, rv, hq2, h2, h3, h4, ?_, h6⟩
   rw [← h5]
   exact (Za0 (hfr _ (frblk q x hq hqo h2 ((hs.at_obj hq2 h2).real h3 h4))).1 _).symm
  ·obtain ⟨x1, hx1, hr⟩ := hs'.obj i ob1 hi
   have hil : i < g1'.obs.length := Zat hx1
   rw [stands.at_ i hil] at h2
   obtain ⟨e0, c0, q1, q2, q3, q4⟩ := cellR (i := i) hr h3 h4
   exact .inr ⟨i, rfl, ob1, x, e0, sz, es, e, rv, hi, h2, q1, by rw [q2, Zco q3.symm], h5, h6⟩
 have newown : ∀ i k j b, Zao [] (y :: news) ZaE w' g1' (.cell i k j) b → ¬ fr b := by
  intro i k j b hp hf
  obtain ⟨ob1, x, el, sz, es, e, rv, h1, h2, h3, h4, h5, h6⟩ := hp
  obtain ⟨arr, cap, c1, _, _, _, _, _, c6⟩ := (hs'.at_obj h1 h2).blk
  obtain ⟨rv2, r1, r2, r3⟩ := c6 k el j _ h3 h4
  have hrv : rv2 = rv := by
   have := Zap (c1 ((hs'.at_obj h1 h2).real h3 h4)) r1
   rw [this] at h5
   exact Option.some.inj h5
  subst hrv
  exact ((r3.own sz es e rfl).2.2.1 _ h6).1 ((hsusp _).2 (.inr hf))
 refine { len := rfl, env := fun t v hv => by simp [nth] at hv, olen := ?_, obj := objR, gone := fun q x hx => ?_, inj := fun q q' x x' hx hx' hp hp' he => ?_, own := fun p q b hp hq => ?_, sub := hs'.sub, immlt := hs'.immlt, basele := by have := hs'.basele; rw [hle.base] at this; exact this, susplt := fun b hb => Nat.lt_of_lt_of_le (hs.susplt b hb) hle.size }
 ·rw [hSl]
  show (ZaC g.obs o z ++ zs).length = _
  rw [List.length_append, Zah, hog, hzl]
 ·rcases cases_obs q x hx with ⟨hq, hqo, hx2⟩ | ⟨i, rfl, hx2⟩
  ·obtain ⟨ob2, hob2⟩ := hs.gone q x hx2
   refine ⟨ob2, ?_⟩
   simp only [ZcI]
   rw [Zai (by rw [Zah]; exact hq), Zan (Ne.symm hqo)]
   exact hob2
  ·obtain ⟨ob1, hob1⟩ := hs'.gone i x hx2
   refine ⟨ob1.ren o S.length, ?_⟩
   simp only [ZcI]
   cases i with
   | zero =>
    simp only [nth] at hob1
    obtain rfl := Option.some.inj hob1
    simp only [Zfy]
    rw [Zai (by rw [Zah]; exact hoS), Zcm hoS]
    rfl
   | succ i =>
    simp only [nth] at hob1
    simp only [Zfy]
    rw [ZaF (by rw [Zah]; omega), Zah, show S.length + i - S.length = i by omega, Zac, List.getElem?_map, ← Zac, hob1]
    rfl
 ·rcases cases_obs q x hx with ⟨hq, hqo, hx2⟩ | ⟨i, rfl, hx2⟩
  ·rcases cases_obs q' x' hx' with ⟨hq', hqo', hx2'⟩ | ⟨i', rfl, hx2'⟩
   ·exact hs.inj q q' x x' hx2 hx2' hp hp' he
   ·exact absurd (by rw [← he]; exact frblk q x hq hqo hx2 hp) (newns i' x' hx2' hp')
  ·rcases cases_obs q' x' hx' with ⟨hq', hqo', hx2'⟩ | ⟨i', rfl, hx2'⟩
   ·exact absurd (by rw [he]; exact frblk q' x' hq' hqo' hx2' hp') (newns i x hx2 hp)
   ·rw [hs'.inj i i' x x' hx2 hx2' hp hp' he]
 ·cases p with
  | slot t => obtain ⟨sz, es, e, rv, h1, _⟩ := hp; simp [nth] at h1
  | cell q1 k1 j1 =>
   cases q with
   | slot t => obtain ⟨sz, es, e, rv, h1, _⟩ := hq; simp [nth] at h1
   | cell q2 k2 j2 =>
    rcases ownR _ _ _ _ hp with ⟨a1, a2⟩ | ⟨i, rfl, a2⟩
    ·rcases ownR _ _ _ _ hq with ⟨b1, b2⟩ | ⟨i', rfl, b2⟩
     ·exact hs.own _ _ b a2 b2
     ·exact absurd (ownfr _ _ _ b a1 a2) (newown _ _ _ _ b2)
    ·rcases ownR _ _ _ _ hq with ⟨b1, b2⟩ | ⟨i', rfl, b2⟩
     ·exact absurd (ownfr _ _ _ b b1 b2) (newown _ _ _ _ a2)
     ·have := hs'.own _ _ b a2 b2
      injection this with h1 h2 h3
      rw [h1, h2, h3]
def Zps {R : Type} (s : S) (o ver : Nat) (K : Ob → Option R) : Option R :=
 match Zcf s o ver with
 | some ob => K ob
 | none => none
theorem Zce {R : Type} {s : S} {o ver : Nat} {K : Ob → Option R} {r : R} (h : Zps s o ver K = some r) : ∃ ob, nth s o = some (some ob) ∧ K ob = some r := by
 unfold Zps at h
 split at h <;> first | (cases h; done) | skip
 rename_i ob hob
 exact ⟨ob, (Zbg hob).1, h⟩
def Zbm (es : List V) : Bool := es.all fun e => e.cells.all Zbi
theorem Zb6 {es : List V} (h : Zbm es = true) : ∀ i e j c, nth es i = some e → nth e.cells j = some c → Zbi c = true := by
 intro i e j c he hc
 have h1 := List.all_eq_true.1 h e (List.mem_of_getElem? (by rw [← Zac]; exact he))
 exact List.all_eq_true.1 h1 c (List.mem_of_getElem? (by rw [← Zac]; exact hc))
end
end Go.VM
