/- Loops by their own code, with so many rounds at most. -/
import Derived.Test.YtjbalmhcpkehnaaVmW
set_option linter.unusedSimpArgs false
set_option linter.unusedVariables false
namespace Go.VM
open Go.RowKit Go.Lib
def Zpp (tr : Bool) (n : Nat) (ks : List Nat) (E : List V) : List V :=
 match tr with
 | true => (Za7 ks E).map (trimV n)
 | false => Za7 ks E
def Zl1 (tr : Bool) (n : Nat) (s : S) : S :=
 match tr with
 | true => Zfr n s
 | false => s
def iter (C : Cfg) (Φ : Zar) (Λ : ZaI) (b : Code) (path : List Nat) (tr : Bool) (ks kx : List Nat) : Nat → (R : Type) → List V → S → (X → List V → S → Option R) → Option R
 | 0, _, _, _, _ => none
 | n + 1, R, E, s, K => ZfL C Φ Λ b (0 :: path) E s fun x E' s' =>
  match x with
  | .norm => iter C Φ Λ b path tr ks kx n R (Zpp tr s.length ks E') (Zl1 tr s.length s') K
  | .ret => K .ret (Zpp tr s.length kx E') (Zl1 tr s.length s')
  | .exit i => K (.exit i) (Zpp tr s.length kx E') (Zl1 tr s.length s')
def G.trim (n : Nat) (g : G) : G := { g with obs := g.obs.take n }
theorem Zbt {α : Type} {l : List α} {n i : Nat} {x : α} (h : nth (l.take n) i = some x) : i < n ∧ nth l i = some x := by
 rw [Zac, List.getElem?_take] at h
 rw [Zac]
 split at h
 ·exact ⟨by assumption, h⟩
 ·cases h
theorem Zb8 {n : Nat} {v : V} {sz : Nat} {es : List V} {f : Fl} (h : trimCell n v = .list sz es f) : v = .list sz es f := by
 cases v <;> simp only [trimCell] at h <;> first | exact h | (cases h; done) | (split at h <;> cases h)
theorem Zes {n : Nat} {v : V} {sz : Nat} {es : List V} {f : Fl} (h : trimV n v = .list sz es f) : v = .list sz es f := by
 cases v <;> simp only [trimV] at h <;> first | exact Zb8 h | cases h
theorem Zft {n : Nat} {v : V} (hv : v.flatCell = true ∨ ∃ cs, v = .agg cs) : (trimV n v).cells = v.cells.map (trimCell n) := by
 cases v with
 | arr o ver off len => simp only [trimV, trimCell]; split <;> simp_all [V.cells, trimCell]
 | ptr o ver i j => simp only [trimV, trimCell]; split <;> simp_all [V.cells, trimCell]
 | tuple vs => rcases hv with h | ⟨cs, h⟩ <;> cases h
 | fn f caps => cases caps <;> rfl
 | _ => rfl
theorem Zgz (n : Nat) (v : V) : (trimCell n v).flatCell = true := by
 cases v <;> simp only [trimCell] <;> first | rfl | skip
 ·split <;> rfl
 ·split <;> rfl
 ·rename_i f caps; cases caps <;> rfl
section trim
variable {C : Cfg} {g : G} {w : World}
theorem DR.trim {l : Bool} {v : V} {rv : Value} (hs : Sub g) (n : Nat) (h : DR g w l v rv) : DR (g.trim n) w l v rv := h.keeps (g' := g.trim n) hs ⟨fun _ _ h => h, fun _ _ h => h, fun _ _ _ => rfl⟩
theorem VR.trimCell {v : V} {rv : Value} (hs : Sub g) (n : Nat) (h : VR g w v rv) : VR (g.trim n) w (Go.VM.trimCell n v) rv := by
 have dat : ∀ v rv, DR g w false v rv → VR (g.trim n) w (Go.VM.trimCell n v) rv := by
  intro v rv h
  cases h with
  | bool b => exact .data (.bool b)
  | int k m => exact .data (.int k m)
  | str s => exact .data (.str s)
  | nilp => exact .data .nilp
  | nilf => exact .data .nilf
  | nili => exact .data .nili
  | nils => exact .data .nils
  | fn f => exact .data (.fn f)
  | agg cs vs hl h => exact .dead _
  | tuple cs vs hl h => exact .dead _
  | list esz es f A m c b off cv hn hc hl hA hsz hf ho hw hd => exact .data ((DR.list esz es f A m c b off cv hn hc hl hA hsz hf ho hw hd).trim hs n)
 have take : ∀ o x, nth (g.trim n).obs o = some x → nth g.obs o = some x := fun o x h => (Zbt h).2
 cases h with
 | data h => exact dat _ _ h
 | ptr o ver i j a ho h =>
  show VR _ w (if o < n then _ else _) _
  split
  ·rename_i hlt
   exact .ptr o ver i j a (by simp only [G.trim, List.length_take]; omega) fun x hx => h x (take o _ hx)
  ·exact .dead _
 | arr o ver off len A c hc ho h =>
  show VR _ w (if o < n then _ else _) _
  split
  ·rename_i hlt
   exact .arr o ver off len A c hc (by simp only [G.trim, List.length_take]; omega) fun x hx => h x (take o _ hx)
  ·exact .dead _
 | cptr cs b off cv ho hw hd => exact .dead _
 | agg cs vs hl h => exact .dead _
 | tuple cs vs hl h => exact .dead _
 | fn f cs vs hl h =>
  cases cs with
  | nil =>
   obtain rfl : vs = [] := List.eq_nil_of_length_eq_zero (by simpa using hl.symm)
   exact .fn f [] [] rfl fun i c v h1 => by simp [nth] at h1
  | cons => exact .dead _
 | dead rv => exact .dead _
theorem VR.trimV {v : V} {rv : Value} (hs : Sub g) (n : Nat) (h : VR g w v rv) : VR (g.trim n) w (Go.VM.trimV n v) rv := by
 by_cases hag : ∃ cs, v = .agg cs
 ·obtain ⟨cs, rfl⟩ := hag
  obtain ⟨vs, rfl, hl, hc⟩ := h.agg_inv
  refine .agg _ vs (by simp [hl]) fun i c u h1 h2 => ?_
  obtain ⟨c0, hc0, rfl⟩ := Zag h1
  exact (hc i c0 u hc0 h2).trimCell hs n
 ·have : Go.VM.trimV n v = Go.VM.trimCell n v := by
   cases v <;> first | rfl | exact absurd ⟨_, rfl⟩ hag
  rw [this]
  exact h.trimCell hs n
theorem OwnOk.trim {v : V} {rv : Value} (n : Nat) (h : OwnOk C g w v rv) : OwnOk C (g.trim n) w (Go.VM.trimV n v) rv := by
 refine ⟨fun sz es e hv => ?_, fun cs hv i sz es e hc => ?_⟩
 ·obtain ⟨h1, h2, h3, h4⟩ := h.own sz es e (Zes hv)
  exact ⟨h1, h2, fun b hb => ⟨(h3 b hb).1, (h3 b hb).2.1, fun o x hx => (h3 b hb).2.2 o x (Zbt hx).2⟩, h4⟩
 ·obtain ⟨cs0, rfl, hv2⟩ : ∃ cs0, v = .agg cs0 ∧ cs = cs0.map (Go.VM.trimCell n) := by
   cases v with
   | agg cs0 => simp only [Go.VM.trimV] at hv; injection hv with hv; exact ⟨cs0, rfl, hv.symm⟩
   | arr o ver off len => simp only [Go.VM.trimV, Go.VM.trimCell] at hv; split at hv <;> cases hv
   | ptr o ver i j => simp only [Go.VM.trimV, Go.VM.trimCell] at hv; split at hv <;> cases hv
   | fn f caps => cases caps <;> cases hv
   | _ => cases hv
  clear hv
  subst hv2
  obtain ⟨c0, hc0, he⟩ := Zag hc
  have := Zb8 he
  subst this
  exact h.agg cs0 rfl i sz es e hc0
theorem OwnOk.trimCell {v : V} {rv : Value} (n : Nat) (hf : v.flatCell = true) (h : OwnOk C g w v rv) : OwnOk C (g.trim n) w (Go.VM.trimCell n v) rv := by
 have : Go.VM.trimV n v = Go.VM.trimCell n v := by cases v <;> first | rfl | cases hf
 rw [← this]
 exact h.trim n
theorem Zkl {n : Nat} {s : S} {o : Nat} {ob' : Ob} (h : nth (Zfr n s) o = some (some ob')) : o < n ∧ ∃ ob, nth s o = some (some ob) ∧ ob' = { ob with es := ob.es.map (Go.VM.trimV n) } := by
 unfold Zfr at h
 obtain ⟨y, hy, he⟩ := Zag h
 obtain ⟨h1, h2⟩ := Zbt hy
 cases y with
 | none => cases he
 | some ob => exact ⟨h1, ob, h2, (Option.some.inj he).symm⟩
theorem Sim.trim {E : List V} {s : S} {a : Act} (h : Sim C g E s a w) (n : Nat) : Sim C (g.trim n) (E.map (Go.VM.trimV n)) (Zfr n s) a w := by
 have cellback : ∀ {o : Nat} {ob : Ob} {i j : Nat} {el c : V}, nth s o = some (some ob) → nth (ob.es.map (Go.VM.trimV n)) i = some el → nth el.cells j = some c → ∃ e c0, nth ob.es i = some e ∧ nth e.cells j = some c0 ∧ c = Go.VM.trimCell n c0 ∧ c0.flatCell = true := by
  intro o ob i j el c hob hel hc
  obtain ⟨x, hx, hr⟩ := h.obj o ob hob
  obtain ⟨e, he, rfl⟩ := Zag hel
  have hfl : e.flatCell = true ∨ ∃ cs, e = .agg cs := by
   by_cases hag : ∃ cs, e = .agg cs
   ·exact .inr hag
   ·have hce : e.cells = [e] := Zbc fun cs hc => hag ⟨cs, hc⟩
    exact .inl (hr.flat i e 0 e he (by rw [hce]; rfl))
  rw [Zft hfl] at hc
  obtain ⟨c0, hc0, rfl⟩ := Zag hc
  exact ⟨e, c0, he, hc0, rfl, hr.flat i e j c0 he hc0⟩
 have key : ∀ p b, Zao (E.map (Go.VM.trimV n)) (Zfr n s) a w (g.trim n) p b → Zao E s a w g p b := by
  intro p b hp
  cases p with
  | slot t =>
   obtain ⟨sz, es, e, rv, h1, h2, h3⟩ := hp
   obtain ⟨v, hv, he⟩ := Zag h1
   exact ⟨sz, es, e, rv, by rw [hv, Zes he], h2, h3⟩
  | cell o i j =>
   obtain ⟨ob', x, el, sz, es, e, rv, h1, h2, h3, h4, h5, h6⟩ := hp
   obtain ⟨hlt, ob, hob, rfl⟩ := Zkl h1
   obtain ⟨e0, c0, q1, q2, q3, _⟩ := cellback hob h3 h4
   exact ⟨ob, x, e0, sz, es, e, rv, hob, (Zbt h2).2, q1, by rw [q2, Zb8 q3.symm], h5, h6⟩
 refine { len := by rw [List.length_map]; exact h.len, env := fun t v hv => ?_, olen := ?_, obj := fun o ob' ho => ?_, gone := fun o x hx => ?_, inj := fun o o' x x' h1 h2 => h.inj o o' x x' (Zbt h1).2 (Zbt h2).2, own := fun p q b h1 h2 => h.own p q b (key p b h1) (key q b h2), sub := h.sub, immlt := h.immlt, basele := h.basele, susplt := h.susplt }
 ·obtain ⟨u, hu, rfl⟩ := Zag hv
  obtain ⟨rv, r1, r2, r3⟩ := h.env t u hu
  exact ⟨rv, r1, r2.trimV h.sub n, r3.trim n⟩
 ·simp only [G.trim, Zfr, List.length_take, List.length_map, h.olen]
 ·obtain ⟨hlt, ob, hob, rfl⟩ := Zkl ho
  obtain ⟨x, hx, hr⟩ := h.obj o ob hob
  obtain ⟨arr, cap, b1, b2, b3, b4, b5, b7, b6⟩ := hr.blk
  refine ⟨x, by rw [Zac]; show (g.obs.take n)[o]? = _; rw [List.getElem?_take, if_pos hlt, ← Zac]; exact hx, ?_⟩
  refine { ver := hr.ver, esz := hr.esz, ty := hr.ty, known := hr.known, blk := ⟨arr, cap, b1, b2, b3, b4, by simpa using b5, b7, fun i e j c he hc => ?_⟩, sz := fun i e he => ?_, flat := fun i e j c he hc => ?_, base := hr.base, nsusp := hr.nsusp, nimm := hr.nimm }
  ·obtain ⟨e0, c0, q1, q2, q3, q4⟩ := cellback hob he hc
   obtain ⟨rv, r1, r2, r3⟩ := b6 i e0 j c0 q1 q2
   subst q3
   exact ⟨rv, r1, r2.trimCell h.sub n, r3.trimCell n q4⟩
  ·obtain ⟨e0, he0, rfl⟩ := Zag he
   have hfl : e0.flatCell = true ∨ ∃ cs, e0 = .agg cs := by
    by_cases hag : ∃ cs, e0 = .agg cs
    ·exact .inr hag
    ·have hce : e0.cells = [e0] := Zbc fun cs hc => hag ⟨cs, hc⟩
     exact .inl (hr.flat i e0 0 e0 he0 (by rw [hce]; rfl))
   rw [Zft hfl, List.length_map]
   exact hr.sz i e0 he0
  ·obtain ⟨e0, c0, q1, q2, q3, q4⟩ := cellback hob he hc
   subst q3
   exact Zgz n c0
 ·obtain ⟨h1, h2⟩ := Zbt hx
  obtain ⟨ob, hob⟩ := h.gone o x h2
  refine ⟨{ ob with es := ob.es.map (Go.VM.trimV n) }, ?_⟩
  rw [Zac] at hob ⊢
  unfold Zfr
  rw [List.getElem?_map, List.getElem?_take, if_pos h1, hob]
  rfl
theorem Le.trim {keep : Nat} {g g' : G} {w w' : World} (h : Le keep g w g' w') {n : Nat} (hn : keep ≤ n) : Le keep g w (g'.trim n) w' where
 keeps := ⟨h.keeps.imm, h.keeps.safe, h.keeps.cell⟩
 size := h.size
 os := h.os
 tape := h.tape
 output := h.output
 base := h.base
 susp := h.susp
 low := h.low
 sus := h.sus
 klen := by simp only [G.trim, List.length_take]; exact Nat.le_min.2 ⟨hn, h.klen⟩
 obs := fun o ho x' hx => h.obs o ho x' (Zbt hx).2
theorem Sim.tidy {keep : Nat} {g0 : G} {w0 : World} {E : List V} {s : S} {a : Act} (tr : Bool) (n : Nat) (ks : List Nat) (hle : Le keep g0 w0 g w) (hn : keep ≤ n) (h : Sim C g E s a w) :
  ∃ g', Le keep g0 w0 g' w ∧ Sim C g' (Zpp tr n ks E) (Zl1 tr n s) a w := by
 cases tr with
 | true => exact ⟨g.trim n, hle.trim hn, (h.kill ks).trim n⟩
 | false => exact ⟨g, hle, h.kill ks⟩
theorem ZfD {tr : Bool} {n : Nat} {s : S} (h : n ≤ s.length) : n ≤ (Zl1 tr n s).length := by
 cases tr with
 | true => simp only [Zl1, Zfr, List.length_map, List.length_take]; exact Nat.le_min.2 ⟨Nat.le_refl _, h⟩
 | false => exact h
end trim
def ZiF : List Nat → List Nat → Bool
 | [], [] => true
 | a :: l, b :: m => match Nat.beq a b with
  | true => ZiF l m
  | false => false
 | _, _ => false
def Zae : ZaI := fun _ _ _ _ _ => none
def ZaI.add (Λ : ZaI) (p : List Nat) (f : (R : Type) → List V → S → (X → List V → S → Option R) → Option R) : ZaI := fun R w E s K =>
 match ZiF w p with
 | true => f R E s K
 | false => Λ R w E s K
def Zbh : Code → List Nat → List (List Nat × Code)
 | .seq a b, w => Zbh a (0 :: w) ++ Zbh b (1 :: w)
 | .cond _ a b, w => Zbh a (0 :: w) ++ Zbh b (1 :: w)
 | .block _ b, w => Zbh b (0 :: w)
 | .scope b, w => Zbh b (0 :: w)
 | .loop b, w => [(w, b)]
 | _, _ => []
def ZaU (fn : Func) : Code := fn.body.getD .skip
def ZcN (c : Code) (w : List Nat) (i : Nat) : List Nat × Code := (nth (Zbh c w) i).getD ([], .skip)
section
variable {P : Program} {C : Cfg} {Φ : Zar} {Λ : ZaI}
theorem Zbb : ∀ (c : Code) (w : List Nat), (∀ p ∈ Zbh c w, ZbF P C Λ p.2 p.1) → ZaY P C Λ c w := by
 intro c
 induction c with
 | seq a b iha ihb => exact fun w h => ⟨iha _ fun p hp => h p (List.mem_append_left _ hp), ihb _ fun p hp => h p (List.mem_append_right _ hp)⟩
 | cond c a b iha ihb => exact fun w h => ⟨iha _ fun p hp => h p (List.mem_append_left _ hp), ihb _ fun p hp => h p (List.mem_append_right _ hp)⟩
 | block id b ih => exact fun w h => ih _ h
 | scope b ih => exact fun w h => ih _ h
 | loop b ih => exact fun w h => h (w, b) (List.mem_singleton.2 rfl)
 | _ => exact fun w h => trivial
theorem Zb3 (hC : Ok P C) (hΦ : Zab P C Φ) {Λi : ZaI} {b : Code} {path ks kx : List Nat} {tr : Bool} {N : Nat} (hl : ZaY P C Λi b (0 :: path))
  (hD : ∀ (R : Type) E s (K : X → List V → S → Option R) r, Λ R path E s K = some r → iter C Φ Λi b path tr ks kx N R (Za7 ks E) s K = some r) : ZbF P C Λ b path := by
 intro R E s K r h
 have key : ∀ n E s, iter C Φ Λi b path tr ks kx n R E s K = some r → ∃ x E' s', K x E' s' = some r ∧ s.length ≤ s'.length ∧ ∀ g a w keep, keep ≤ s.length → Sim C g E s a w → ∀ Q : Exit → Act → World → Prop,
   (∀ g' a' w', Le keep g w g' w' → Sim C g' E' s' a' w' → a'.defers = a.defers → Q x.exit' a' w') → ZeA P b Q a w := by
  intro n
  induction n with
  | zero => intro E s h; cases h
  | succ n ih =>
   intro E s h
   simp only [iter] at h
   obtain ⟨x, E1, s1, h2, hl1, h3⟩ := Znl hC hΦ hl h
   cases x with
   | norm =>
    simp only at h2
    obtain ⟨x2, E2, s2, h4, hl2, h5⟩ := ih _ _ h2
    have hl3 := ZfD (tr := tr) hl1
    refine ⟨x2, E2, s2, h4, Nat.le_trans hl3 hl2, fun g a w keep hk hs Q hQ => ZeA.round (h3 g a w keep hk hs _ fun g' a' w' hle hs' hd => ?_)⟩
    obtain ⟨g1, hle1, hs1⟩ := hs'.tidy tr s.length ks hle hk
    exact h5 g1 a' w' keep (Nat.le_trans hk hl3) hs1 Q fun g'' a'' w'' hle' hs'' hd' => hQ g'' a'' w'' (hle1.trans hle') hs'' (hd'.trans hd)
   | ret =>
    simp only at h2
    exact ⟨_, _, _, h2, ZfD hl1, fun g a w keep hk hs Q hQ => ZeA.round (h3 g a w keep hk hs _ fun g' a' w' hle hs' hd => by
     obtain ⟨g1, hle1, hs1⟩ := hs'.tidy tr s.length kx hle hk
     exact hQ g1 a' w' hle1 hs1 hd)⟩
   | exit id =>
    simp only at h2
    exact ⟨_, _, _, h2, ZfD hl1, fun g a w keep hk hs Q hQ => ZeA.round (h3 g a w keep hk hs _ fun g' a' w' hle hs' hd => by
     obtain ⟨g1, hle1, hs1⟩ := hs'.tidy tr s.length kx hle hk
     exact hQ g1 a' w' hle1 hs1 hd)⟩
 obtain ⟨x, E', s', h1, h2, h3⟩ := key N _ s (hD R E s K r h)
 exact ⟨x, E', s', h1, h2, fun g a w keep hk hs Q hQ => Znf (h3 g a w keep hk (hs.kill ks) Q hQ)⟩
end
end Go.VM
