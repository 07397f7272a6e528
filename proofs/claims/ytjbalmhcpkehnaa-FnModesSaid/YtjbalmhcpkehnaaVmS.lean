/- Functions: from their bodies to what calls of them come to. -/
import Derived.Test.YtjbalmhcpkehnaaVmR
set_option linter.unusedSimpArgs false
set_option linter.unusedVariables false
namespace Go.VM
open Go.RowKit Go.Lib
section
variable {P : Program} {C : Cfg} {o : Oper} {E : List V} {s : S} {R : Type}
def ZpB (a : Act) : ResultVar → Sem Value
 | .tmp t => pure (a.tmps.getD t undef)
 | .cell x t => do loadVar t (← asAddr (a.tmps.getD x undef))
theorem Zdy (hC : Ok P C) : ∀ {l : List ResultVar} {K : List V → Option R} {r : R}, Zb7 C s E l K = some r → ∃ vs, K vs = some r ∧ ∀ g a w, Sim C g E s a w → ∃ rvs : List Value, vs.length = rvs.length ∧
  (l.mapM (ZpB a)).run P w = .ok rvs w ∧
  ∀ i v rv, nth vs i = some v → nth rvs i = some rv → VR g w v rv
 | [], K, r, h => by
  simp only [Zb7] at h
  exact ⟨[], h, fun g a w hs => ⟨[], rfl, by simp, fun i v rv h => by simp [nth] at h⟩⟩
 | .tmp t :: l, K, r, h => by
  simp only [Zb7] at h
  obtain ⟨v, hv, h2⟩ := Zaf h
  obtain ⟨vs, h3, h4⟩ := Zdy hC h2
  refine ⟨v :: vs, h3, fun g a w hs => ?_⟩
  obtain ⟨rvs, r1, r2, r3⟩ := h4 g a w hs
  obtain ⟨rv, e1, e2, _⟩ := hs.env t v hv
  refine ⟨rv :: rvs, by simp [r1], ?_, fun i v' rv' hv' hrv' => ?_⟩
  ·have : a.tmps.getD t undef = rv := by simp [Array.getD_eq_getD_getElem?, e1]
   simp only [List.mapM_cons, ZpB, Sem.run_bind, Sem.run_pure, Result.andThen_ok, r2, this]
  ·cases i with
   | zero => simp only [nth] at hv' hrv'; obtain rfl := Option.some.inj hv'; obtain rfl := Option.some.inj hrv'; exact e2
   | succ i => exact r3 i v' rv' hv' hrv'
 | .cell x t :: l, K, r, h => by
  simp only [Zb7] at h
  obtain ⟨hk, h2⟩ := Zaa h
  obtain ⟨p, hp, h3⟩ := Zaf h2
  obtain ⟨v, h4, h5, h6⟩ := Zla (P := P) hC hk h3
  obtain ⟨vs, h7, h8⟩ := Zdy hC h4
  refine ⟨v :: vs, h7, fun g a w hs => ?_⟩
  obtain ⟨rvs, r1, r2, r3⟩ := h8 g a w hs
  obtain ⟨rp, e1, e2, _⟩ := hs.env x p hp
  obtain ⟨rv, _, e4, ad, e5, e6⟩ := h6 g E a w rp hs e2
  refine ⟨rv :: rvs, by simp [r1], ?_, fun i v' rv' hv' hrv' => ?_⟩
  ·have : a.tmps.getD x undef = .pointer (some ad) := by simp [Array.getD_eq_getD_getElem?, e1, e5]
   simp only [List.mapM_cons, ZpB, Sem.run_bind, Sem.run_pure, Result.andThen_ok, r2, this, asAddr, e6]
  ·cases i with
   | zero => simp only [nth] at hv' hrv'; obtain rfl := Option.some.inj hv'; obtain rfl := Option.some.inj hrv'; exact e4
   | succ i => exact r3 i v' rv' hv' hrv'
theorem Zga (hC : Ok P C) {fn : Func} {K : List V → Option R} {r : R} (h : Zb7 C s E fn.results.toList K = some r) : ∃ vs, K vs = some r ∧ ∀ g a w, Sim C g E s a w →
  ∃ rv, (results fn a.tmps).run P w = .ok rv w ∧ VR g w (Zho vs) rv ∧ ∀ l, Zho vs = .tuple l → VR g w (.tuple (l.map V.noOwn)) rv := by
 obtain ⟨vs, h1, h2⟩ := Zdy (P := P) hC h
 refine ⟨vs, h1, fun g a w hs => ?_⟩
 obtain ⟨rvs, r1, r2, r3⟩ := h2 g a w hs
 refine ⟨if h : rvs.toArray.size = 1 then rvs.toArray[0] else .tuple rvs.toArray, ?_, ?_⟩
 ·have e0 : results fn a.tmps = (do
    let vs ← fn.results.mapM (ZpB a)
    pure (if h : vs.size = 1 then vs[0] else .tuple vs)) := by
   unfold results
   rfl
  rw [e0, Array.mapM_eq_mapM_toList]
  simp only [Sem.run_bind, Sem.run_map, r2]
  simp
 ·have tup : ∀ l : List V, l.length = rvs.length → (∀ i v rv, nth l i = some v → nth rvs i = some rv → VR g w v rv) → VR g w (.tuple l) (.tuple rvs.toArray) := fun l hl hv => .tuple l rvs hl hv
  have tup2 : VR g w (.tuple (vs.map V.noOwn)) (.tuple rvs.toArray) := tup _ (by simp [r1]) fun i v rv hv hrv => by
   obtain ⟨v0, hv0, rfl⟩ := Zag hv
   exact (r3 i v0 rv hv0 hrv).noOwn
  rcases vs with _ | ⟨v, _ | ⟨v2, vt⟩⟩ <;> rcases rvs with _ | ⟨u, _ | ⟨u2, ut⟩⟩ <;> first | (exfalso; simp at r1; done) | skip
  ·exact ⟨tup [] rfl r3, fun l hl => by injection hl with hl; subst hl; exact tup2⟩
  ·have := r3 0 v u rfl rfl
   refine ⟨this, fun l hl => ?_⟩
   have hl' : v = .tuple l := hl
   subst hl'
   obtain ⟨us, hu, hul, hu2⟩ := this.tuple_inv
   have e : (if h : [u].toArray.size = 1 then [u].toArray[0] else Value.tuple [u].toArray) = u := by simp
   rw [e, hu]
   exact .tuple _ us (by simp [hul]) fun i c v hc hv => by
    obtain ⟨c0, hc0, rfl⟩ := Zag hc
    exact (hu2 i c0 v hc0 hv).noOwn
  ·exact ⟨tup _ r1 r3, fun l hl => by injection hl with hl; subst hl; exact tup2⟩
theorem Sim.enter {g : G} {w : World} (hs : Sim C g [] s ZaE w) {as : List V} {rvs : Array Value} (n : Nat) (hl : as.length = rvs.size)
  (h : ∀ (i : Nat) (c : V) (rv : Value), nth as i = some c → rvs[i]? = some rv → VR g w c rv ∧ c.still) :
  Sim C g (as ++ List.replicate (n - as.length) .dead) s { tmps := rvs ++ Array.replicate (n - rvs.size) undef, defers := [] } w := by
 have hcell : ∀ t b, ¬ Zao (as ++ List.replicate (n - as.length) V.dead) s { tmps := rvs ++ Array.replicate (n - rvs.size) undef, defers := [] } w g (.slot t) b := by
  rintro t b ⟨sz, es, e, rv, h1, _⟩
  by_cases hlt : t < as.length
  ·rw [Zai hlt] at h1
   have hr : rvs[t]? = some (rvs[t]'(by omega)) := Array.getElem?_eq_getElem (by omega)
   exact (h t _ _ h1 hr).2.1 sz es e rfl
  ·rw [ZaF (by omega)] at h1
   obtain ⟨h2, _⟩ := ZaW h1
   cases h2
 exact {
  len := by simp [hl]
  env := fun t v hv => by
   by_cases hlt : t < as.length
   ·rw [Zai hlt] at hv
    have hr : rvs[t]? = some (rvs[t]'(by omega)) := Array.getElem?_eq_getElem (by omega)
    obtain ⟨h1, h2⟩ := h t v _ hv hr
    exact ⟨_, by show (rvs ++ Array.replicate (n - rvs.size) undef)[t]? = _; rw [Array.getElem?_append_left (by omega)]; exact hr, h1, OwnOk.of_not h2⟩
   ·have hlt2 := Zat hv
    rw [ZaF (by omega)] at hv
    obtain ⟨rfl, _⟩ := ZaW hv
    simp at hlt2
    refine ⟨(rvs ++ Array.replicate (n - rvs.size) undef)[t]'(by simp; omega), by show (rvs ++ Array.replicate (n - rvs.size) undef)[t]? = _; exact Array.getElem?_eq_getElem _, .dead _, OwnOk.of_not (by simp [V.still])⟩
  olen := hs.olen
  obj := hs.obj
  gone := hs.gone
  inj := hs.inj
  own := fun p q b hp hq => by
   cases p with
   | slot t => exact absurd hp (hcell t b)
   | cell o i j => cases q with
    | slot t => exact absurd hq (hcell t b)
    | cell o' i' j' => exact hs.own _ _ b hp hq
  sub := hs.sub
  immlt := hs.immlt
  basele := hs.basele
  susplt := hs.susplt }
theorem ZnB {f : FuncId} {fn : Func} {c : Code} {rvs : Array Value} {w : World} {T : Value → World → Prop} (hf : P.funcs[f]? = some fn) (hb : fn.body = some c) (hn : (fn.name == "runtime.NumGoroutine") = false)
  (h : c.wp P (bodyPost P fn fun e w' => ∃ v, e = .returned v ∧ T v w') { tmps := rvs ++ Array.replicate (fn.ntmps - rvs.size) undef, defers := [] } w) : ZdN P f rvs w T :=
 ZdN.of_calls hf (by rw [hb]; rfl) hn (calls_of_wp hf hb h)
theorem Zif {Φ : Zar} {Λ : ZaI} {f : FuncId} {fn : Func} {c : Code} {as : List V} {K : V → S → Option R} {r : R} (hC : Ok P C) (hΦ : Zab P C Φ) (hb : fn.body = some c) (hl : ZaY P C Λ c [])
  (h : Za9 C Φ Λ f fn as s K = some r) : ∃ x E' s' vs, (x = .norm ∨ x = .ret) ∧ Zmv P C c (as ++ List.replicate (fn.ntmps - as.length) .dead) s x E' s' ∧
   (∀ g a w, Sim C g E' s' a w → ∃ rv, (results fn a.tmps).run P w = .ok rv w ∧ VR g w (Zho vs) rv ∧ ∀ l, Zho vs = .tuple l → VR g w (.tuple (l.map V.noOwn)) rv) ∧
   (match C.mode f with
    | .pure => Zbo false s' 12 (Zho vs) fun v => ZnJ C f (Zi9 (C.ownRet f) (Zho vs) v) fun v => K v []
    | .shared => K (match Zho vs with | .tuple l => .tuple (l.map V.noOwn) | v => v.noOwn) s'
    | .own => Zj0 vs fun sz es e => Zal ((C.ty e).known && Nat.beq sz (C.ty e).size) (K (.list sz es (.own e)) [])) = some r := by
 unfold Za9 at h
 rw [hb] at h
 simp only at h
 obtain ⟨x, E', s', h1, h2⟩ := Znl hC hΦ hl h
 cases x with
 | exit id => cases h1
 | norm =>
  simp only at h1
  obtain ⟨vs, h3, h4⟩ := Zga (P := P) hC h1
  exact ⟨_, E', s', vs, .inl rfl, h2, h4, h3⟩
 | ret =>
  simp only at h1
  obtain ⟨vs, h3, h4⟩ := Zga (P := P) hC h1
  exact ⟨_, E', s', vs, .inr rfl, h2, h4, h3⟩
theorem ZlV {f : FuncId} {v : V} {K : V → Option R} {r : R} (h : ZnJ C f v K = some r) : K v = some r := by
 unfold ZnJ at h
 split at h
 ·exact Zev h
 ·exact h
theorem Zaz {Φ : Zar} {Λ : ZaI} {f : FuncId} {fn : Func} {c : Code} {as : List V} {K : V → S → Option R} {r : R} (hC : Ok P C) (hΦ : Zab P C Φ) (hf : P.funcs[f]? = some fn) (hb : fn.body = some c)
  (hn : (fn.name == "runtime.NumGoroutine") = false) (hl : ZaY P C Λ c []) (hm : C.mode f = .pure) (ho : C.ownRet f = false) (h : Za9 C Φ Λ f fn as [] K = some r) : ∃ v, K v [] = some r ∧ Zge P f as v := by
 obtain ⟨x, E', s', vs, hx, h2, h3, h4⟩ := Zif hC hΦ hb hl h
 rw [hm] at h4
 simp only at h4
 obtain ⟨v, hv, h4⟩ := ZbR h4
 rw [ho] at h4
 replace h4 := ZlV h4
 refine ⟨v, h4, ZcO hv, fun g w rvs hsub himm hlen hargs => ?_⟩
 let g0 : G := { base := w.heap.size, imm := g.imm, safe := g.safe, susp := fun b => b < w.heap.size, obs := [] }
 have hs0 : Sim C g0 [] [] ZaE w := {
  len := rfl
  env := fun t v hv => by simp [nth] at hv
  olen := rfl
  obj := fun o ob ho => by simp [nth] at ho
  gone := fun o x hx => by simp [g0, nth] at hx
  inj := fun o o' x x' hx => by simp [g0, nth] at hx
  own := fun p q b hp => by
   cases p with
   | slot t => obtain ⟨sz, es, e, rv, h1, _⟩ := hp; simp [nth] at h1
   | cell o i j => obtain ⟨ob, x, el, sz, es, e, rv, h1, _⟩ := hp; simp [nth] at h1
  sub := hsub
  immlt := himm
  basele := Nat.le_refl _
  susplt := fun b hb => hb }
 have hs := hs0.enter fn.ntmps hlen fun i c rv hc hr => by
  obtain ⟨h1, h2⟩ := hargs i c rv hc hr
  exact ⟨.data (DR.keeps (g' := g0) hsub ⟨fun _ _ h => h, fun _ _ h => h, fun _ _ _ => rfl⟩ h1), h2⟩
 refine ZnB hf hb hn (h2.2 g0 _ w 0 (Nat.zero_le _) hs _ fun g' a' w' hle hs' hd => ?_)
 obtain ⟨rv, r1, r2, _⟩ := h3 g' a' w' hs'
 have hfin : bodyPost P fn (fun e w' => ∃ v_1, e = .returned v_1 ∧ (w.heap.size ≤ w'.heap.size ∧ (∀ b, b < w.heap.size → w'.heap[b]? = w.heap[b]?) ∧ w'.os = w.os ∧ w'.tape = w.tape ∧ w'.output = w.output ∧
   ∃ N : Nat → Nat → Prop, (∀ b i, N b i → w.heap.size ≤ b ∧ b < w'.heap.size) ∧ DR (g.more N) w' true v v_1)) .normal a' w' := by
  refine ⟨hd, rv, r1, rv, rfl, hle.size, hle.low, hle.os, hle.tape, hle.output, fun b i => w.heap.size ≤ b ∧ b < w'.heap.size, fun _ _ h => h, ?_⟩
  let g2 : G := { g' with imm := fun b i => g'.imm b i ∨ ∃ o x, nth g'.obs o = some (some x) ∧ 0 < x.2.2.2 ∧ x.2.1 = b, safe := fun b i => g'.safe b i ∨ ∃ o x, nth g'.obs o = some (some x) ∧ 0 < x.2.2.2 ∧ x.2.1 = b }
  have hk2 : Keeps g' w' g2 w' := ⟨fun _ _ h => .inl h, fun _ _ h => .inl h, fun _ _ _ => rfl⟩
  have hdr : DR g2 w' true v rv := Zfo (view := false) hs' (fun h => by cases h) hk2 (fun oo xx i hxx hp => by show g2.safe _ _; exact .inr ⟨oo, xx, hxx, hp, rfl⟩) 12 hv r2
  refine DR.safely (g := g2) (fun b i hb => ?_) (fun _ _ _ => rfl) hdr
  by_cases hlt : b < w.heap.size
  ·left
   rcases hb with hb | ⟨oo, xx, hxx, hp, rfl⟩
   ·exact (hle.sus b hlt).2.2 i hb
   ·obtain ⟨ob, hob⟩ := hs'.gone oo xx hxx
    have := (hs'.at_obj hob hxx).base hp
    have hbase : g'.base = w.heap.size := hle.base
    omega
  ·right
   refine ⟨by omega, ?_⟩
   rcases hb with hb | ⟨oo, xx, hxx, hp, rfl⟩
   ·exact hs'.immlt b i (hs'.sub b i hb)
   ·obtain ⟨ob, hob⟩ := hs'.gone oo xx hxx
    obtain ⟨arr, cap, b1, _⟩ := (hs'.at_obj hob hxx).blk
    exact ZaN (b1 hp)
 rcases hx with rfl | rfl
 ·exact hfin
 ·exact hfin
theorem ZjF {Φ : Zar} {Λ : ZaI} {f : FuncId} {fn : Func} {c : Code} {as : List V} {K : V → S → Option R} {r : R} (hC : Ok P C) (hΦ : Zab P C Φ) (hf : P.funcs[f]? = some fn) (hb : fn.body = some c)
  (hn : (fn.name == "runtime.NumGoroutine") = false) (hl : ZaY P C Λ c []) (hm : C.mode f = .shared) (h : Za9 C Φ Λ f fn as s K = some r) : ∃ v s', K v s' = some r ∧ Za4 P C f as s v s' := by
 obtain ⟨x, E', s', vs, hx, h2, h3, h4⟩ := Zif hC hΦ hb hl h
 rw [hm] at h4
 simp only at h4
 refine ⟨_, s', h4, ?_, h2.1, fun g w rvs keep hk hs0 hlen hargs => ?_⟩
 ·generalize Zho vs = u
  split
  ·simp [V.still]
  ·exact Zav u
 have hs := hs0.enter fn.ntmps hlen hargs
 refine ZnB hf hb hn (h2.2 g _ w keep hk hs _ fun g' a' w' hle hs' hd => ?_)
 obtain ⟨rv, r1, r2, r3⟩ := h3 g' a' w' hs'
 have hv : VR g' w' (match Zho vs with | .tuple l => .tuple (l.map V.noOwn) | v => v.noOwn) rv := by
  generalize Zho vs = u at r2 r3
  split
  ·rename_i l
   exact r3 l rfl
  ·exact r2.noOwn
 rcases hx with rfl | rfl
 ·exact ⟨hd, rv, r1, rv, rfl, g', hle, hs'.quit, hv⟩
 ·exact ⟨hd, rv, r1, rv, rfl, g', hle, hs'.quit, hv⟩
end
end Go.VM
