/- Calls, within a frame. -/
import Derived.Test.YtfebgjdmddegjaaDoorVmP
set_option linter.unusedSimpArgs false
set_option linter.unusedVariables false
namespace Go.VM
open Go.RowKit Go.Lib
section
variable {P : Program} {C : Cfg} {o : Oper} {E : List V} {s : S} {R : Type}
def Zb3 (C : Cfg) (E : List V) (s : S) (c : Call) (args : List V) : Prop :=
 args.length = c.args.toList.length ∧ ∀ g a w, Sim C g E s a w → ∀ i v, nth args i = some v → ∃ x, nth c.args.toList i = some x ∧ VR g w v (a.eval x)
theorem Zb3.of {c : Call} {args : List V} (h : Zgy C E c.argTypes.toList c.args.toList = some args) : Zb3 C E s c args :=
 ⟨(Ze8 h).1, fun g a w hs i v hv => (ZhN hs h).2 i v hv⟩
theorem Zrx {x : Operand} (h : ZnQ x = true) : x = .const (.slice none 0 0) := by
 unfold ZnQ at h
 split at h
 ·rfl
 ·cases h
theorem Zlr : ∀ {xs : List Operand} {vs : List V}, (Zd7 xs vs).length = vs.length ∧ ∀ i v, nth (Zd7 xs vs) i = some v → nth vs i = some v ∨ (v = .nils ∧ nth xs i = some (.const (.slice none 0 0)))
 | [], vs => ⟨by simp [Zd7], fun i v h => .inl (by simpa [Zd7] using h)⟩
 | x :: xs, [] => ⟨by simp [Zd7], fun i v h => .inl (by simpa [Zd7] using h)⟩
 | x :: xs, v :: vs => by
  obtain ⟨h1, h2⟩ := Zlr (xs := xs) (vs := vs)
  refine ⟨by simp [Zd7, h1], fun i u hu => ?_⟩
  cases i with
  | zero =>
   simp only [Zd7, nth] at hu ⊢
   split at hu
   ·rename_i hb
    exact .inr ⟨(Option.some.inj hu).symm, by rw [Zrx hb]⟩
   ·exact .inl hu
  | succ i => exact h2 i u hu
theorem Zb3.nils {c : Call} {args : List V} (h : Zb3 C E s c args) : Zb3 C E s c (Zd7 c.args.toList args) := by
 obtain ⟨h1, h2⟩ := Zlr (xs := c.args.toList) (vs := args)
 refine ⟨h1.trans h.1, fun g a w hs i v hv => ?_⟩
 rcases h2 i v hv with h3 | ⟨rfl, h3⟩
 ·exact h.2 g a w hs i v h3
 ·exact ⟨_, h3, .data .nils⟩
theorem Zb3.argsN {b : Bool} {c : Call} {args : List V} (h : Zgy C E c.argTypes.toList c.args.toList = some args) : Zb3 C E s c (Go.VM.argsN b c.args.toList args) := by
 unfold Go.VM.argsN
 split
 ·exact (Zb3.of h).nils
 ·exact Zb3.of h
theorem Zoc {g : G} {a : Act} {w : World} (hs : Sim C g E s a w) {c : Call} {args caps : List V} {cv : List Value} (ha : Zb3 C E s c args)
  (hl : caps.length = cv.length) (hc : ∀ i c v, nth caps i = some c → nth cv i = some v → VR g w c v) :
  (args ++ caps).length = (c.args.map a.eval ++ cv.toArray).size ∧
   ∀ (i : Nat) (u : V) (rv : Value), nth (args ++ caps) i = some u → (c.args.map a.eval ++ cv.toArray)[i]? = some rv → VR g w u rv := by
 obtain ⟨h1, h2'⟩ := ha
 have h2 := h2' g a w hs
 have hsz : args.length = (c.args.map a.eval).size := by rw [h1]; simp
 refine ⟨by simp [h1, hl], fun i u rv hu hr => ?_⟩
 by_cases hlt : i < args.length
 ·rw [Zap hlt] at hu
  obtain ⟨x, hx, hv⟩ := h2 i u hu
  rw [Array.getElem?_append_left (by rw [← hsz]; exact hlt), Array.getElem?_map] at hr
  have : c.args[i]? = some x := by rw [← Array.getElem?_toList, ← Zaf]; exact hx
  rw [this] at hr
  obtain rfl := Option.some.inj hr
  exact hv
 ·rw [ZaU (by omega)] at hu
  rw [Array.getElem?_append_right (by omega), ← hsz, Zbz] at hr
  exact hc _ u rv hu hr
theorem Zha {a : Act} {w : World} {c : Call} {x : Operand} {f : FuncId} {cv : List Value} (ho : o.op = .call c) (hcal : c.callee = .value x) (hx : a.eval x = .func (.func f) #[] cv.toArray) :
  (execOp a.eval o).run P w = (callFunc f (c.args.map a.eval ++ cv.toArray)).run P w := by
 unfold execOp
 simp [ho, resolve, hcal, hx, Deferred.ofValue, invoke]
theorem Zkh {t : TypeId} {v : V} {K : V → Option R} {r : R} (h : ZAL C t v K = some r) : K v = some r := by
 unfold ZAL at h
 split at h
 ·obtain ⟨es, f, rfl, h2⟩ := Zar h
  exact h2
 ·split at h
  ·obtain ⟨cs, rfl, h2⟩ := Zca h
   exact (Zek h2).2
  ·split at h <;> first | (cases h; done) | skip
   exact Ze6 h
theorem ZhA : ∀ {ts : List TypeId} {l : List V} {K : List V → Option R} {r : R}, ZuD C ts l K = some r → K l = some r
 | [], l, K, r, h => by
  obtain ⟨rfl, h2⟩ := Zgf h
  exact h2
 | t :: ts, l, K, r, h => by
  obtain ⟨a, m, rfl, h2⟩ := ZcB h
  have h3 := Zkh h2
  exact ZhA (K := fun l => K (a :: l)) h3
theorem ZfS {ts : List TypeId} {v : V} {K : V → Option R} {r : R} (h : Zoo C ts v K = some r) : K v = some r := by
 unfold Zoo at h
 split at h
 ·exact Zkh h
 ·split at h <;> first | (cases h; done) | skip
  exact ZhA (K := fun l => K (.tuple l)) h
theorem ZhB {Φ : Zan} (hΦ : Zaa P C Φ) {c : Call} {x : Operand} {f : FuncId} {args caps as : List V} {K : V → S → Option R} {r : R} (ho : o.op = .call c) (hcal : c.callee = .value x) (hx : ev E x = some (.fn f caps))
  (ha : Zb3 C E s c args) (hm : C.mode f = .pure) (hfr : ZaX (ZaY true s 12) (args ++ caps) = some as) (h : (Φ R f as [] fun v _ => Zoo C (C.res f) v fun v => K v s) = some r) :
  ∃ v, K v s = some r ∧ ZbW P C o E s v E s := by
 have h2 := hΦ R f as [] _ r h
 rw [hm] at h2
 obtain ⟨v, h3', hst, h4⟩ := h2 rfl
 have h3 := ZfS h3'
 refine ⟨v, h3, Nat.le_refl _, fun g a w keep hkp hs next Q hnext => ?_⟩
 obtain ⟨cv, hrx, hl, hc⟩ := (hs.ev hx).1.fn_inv
 obtain ⟨q1, q2⟩ := Zoc hs ha hl hc
 obtain ⟨m1, m2⟩ := ZbJ hfr
 unfold Oper.wp
 rw [Zha ho hcal hrx]
 let gv : G := { g with imm := fun b i => g.imm b i ∨ ∃ o x, nth g.obs o = some (some x) ∧ 0 < x.2.2.2 ∧ x.2.1 = b }
 have hkv : Keeps g w gv w := ⟨fun _ _ h => .inl h, fun _ _ h => h, fun _ _ _ => rfl⟩
 refine h4 gv w _ (fun b i hb => .inl (hs.sub b i hb)) (fun b i hb => ?_) (by rw [← m1, q1]) (fun i u rv hu hr => ?_) o a next Q fun rv w' hw => ?_
 ·rcases hb with hb | ⟨oo, xx, hxx, hp, rfl⟩
  ·exact hs.immlt b i hb
  ·obtain ⟨ob, hob⟩ := hs.gone oo xx hxx
   obtain ⟨arr, cap, b1, _⟩ := (hs.at_obj hob hxx).blk
   exact Za8 (b1 hp)
 ·obtain ⟨v0, hv0, hf0⟩ := m2 i u hu
  exact ⟨ZhI (g' := gv) hs (fun _ b i hb => Or.inl (hs.sub b i hb)) hkv (fun oo xx i hxx hp => by show gv.imm _ _; exact .inr ⟨oo, xx, hxx, hp, rfl⟩) 12 hf0 (q2 i v0 rv hv0 hr), ZdL hf0⟩
 ·obtain ⟨w1, w2, w3, w4, w5, N, w6, w7⟩ := hw
  obtain ⟨k1, _⟩ := hs.more w1 w2 N w6
  have k2 := Le.more hs w1 w2 w3 w4 w5 N w6 hkp
  have w8 : DR (g.more N) w' true v rv := DR.safely (g := gv.more N) (g' := g.more N) (fun b i hb => hb) (fun _ _ _ => rfl) w7
  exact hnext _ rv w' k2 (k1.put0 o.dst (.data w8.weak) hst)
theorem Zij {Φ : Zan} (hΦ : Zaa P C Φ) {c : Call} {x : Operand} {f : FuncId} {args caps as : List V} {K : V → S → Option R} {r : R} (ho : o.op = .call c) (hcal : c.callee = .value x) (hx : ev E x = some (.fn f caps))
  (ha : Zb3 C E s c args) (hm : C.mode f = .own) (hfr : ZaX (ZaY true s 12) (args ++ caps) = some as) (h : (Φ R f as [] fun v _ => Zoo C (C.res f) v fun v => K v s) = some r) :
  ∃ v, K v s = some r ∧ ZbW P C o E s v E s := by
 have h2 := hΦ R f as [] _ r h
 rw [hm] at h2
 obtain ⟨v, h3', sz, es, e, rfl, hke, hsz, h4⟩ := h2 rfl
 have h3 := ZfS h3'
 refine ⟨_, h3, Nat.le_refl _, fun g a w keep hkp hs next Q hnext => ?_⟩
 obtain ⟨cv, hrx, hl, hc⟩ := (hs.ev hx).1.fn_inv
 obtain ⟨q1, q2⟩ := Zoc hs ha hl hc
 obtain ⟨m1, m2⟩ := ZbJ hfr
 unfold Oper.wp
 rw [Zha ho hcal hrx]
 let gv : G := { g with imm := fun b i => g.imm b i ∨ ∃ o x, nth g.obs o = some (some x) ∧ 0 < x.2.2.2 ∧ x.2.1 = b }
 have hkv : Keeps g w gv w := ⟨fun _ _ h => .inl h, fun _ _ h => h, fun _ _ _ => rfl⟩
 refine h4 gv w _ (fun b i hb => .inl (hs.sub b i hb)) (fun b i hb => ?_) (by rw [← m1, q1]) (fun i u rv hu hr => ?_) o a next Q fun rv w' hw => ?_
 ·rcases hb with hb | ⟨oo, xx, hxx, hp, rfl⟩
  ·exact hs.immlt b i hb
  ·obtain ⟨ob, hob⟩ := hs.gone oo xx hxx
   obtain ⟨arr, cap, b1, _⟩ := (hs.at_obj hob hxx).blk
   exact Za8 (b1 hp)
 ·obtain ⟨v0, hv0, hf0⟩ := m2 i u hu
  exact ⟨ZhI (g' := gv) hs (fun _ b i hb => Or.inl (hs.sub b i hb)) hkv (fun oo xx i hxx hp => by show gv.imm _ _; exact .inr ⟨oo, xx, hxx, hp, rfl⟩) 12 hf0 (q2 i v0 rv hv0 hr), ZdL hf0⟩
 ·obtain ⟨w1, w2, w3, w4, w5, N, w6, w7, ⟨xs, w8⟩, w9⟩ := hw
  obtain ⟨k1, _⟩ := hs.more w1 w2 N w6
  have k2 := Le.more hs w1 w2 w3 w4 w5 N w6 hkp
  have hdr : DR (g.more N) w' true (.list sz es (.own e)) rv := DR.safely (g := gv.more N) (g' := g.more N) (fun b i hb => hb) (fun _ _ _ => rfl) w7
  have hnew : ∀ b, rv.ownBlock = some b → w.heap.size ≤ b := fun b hb => (Za3 w8 hb).2
  refine hnext _ rv w' k2 (k1.put o.dst (.data hdr.weak) ⟨fun sz' es' e' hv => ?_, fun cs hv => by cases hv⟩ fun sz' es' e' b hv hb p _ hp => ?_)
  ·injection hv with h1 h2 h3
   injection h3 with h3
   subst h1 h2 h3
   refine ⟨hke, ⟨xs, ?_⟩, fun b hb => ⟨fun hsus => ?_, fun i hi him => ?_, fun oo xx hxx hp hxb => ?_⟩, hsz⟩
   ·obtain ⟨z1, z2⟩ := w8
    refine ⟨z1, ?_⟩
    rcases z2 with z2 | ⟨gb, cap, cur, z3, z4, z5⟩
    ·exact .inl z2
    ·exact .inr ⟨gb, cap, cur, z3, Nat.le_trans hs.basele z4, z5⟩
   ·have := hs.susplt b hsus
    have := hnew b hb
    omega
   ·rcases him with him | him
    ·have := hs.immlt b i him
     have := hnew b hb
     omega
    ·exact w9 b hb i hi him
   ·obtain ⟨ob, hob⟩ := hs.gone oo xx hxx
    obtain ⟨arr, cap, b1, _⟩ := (hs.at_obj hob hxx).blk
    have := Za8 (b1 hp)
    have := hnew b hb
    omega
  ·have := Znp hs (ZiT hs w2 rfl hp)
   have := hnew b hb
   omega
def G.away (g : G) (E : List V) (s : S) (a : Act) (w : World) : G := { g with susp := fun b => g.susp b ∨ ∃ t, Zau E s a w g (.slot t) b }
theorem VR.same {g g' : G} {w : World} {v : V} {rv : Value} (hs : Sub g) (h : VR g w v rv) (h1 : g'.imm = g.imm) (h2 : g'.safe = g.safe) (h3 : g'.obs = g.obs) : VR g' w v rv :=
 h.keeps hs ⟨fun _ _ h => by rw [h1]; exact h, fun _ _ h => by rw [h2]; exact h, fun _ _ _ => rfl⟩ ⟨by rw [h3]; exact Nat.le_refl _, fun _ _ x' h => ⟨x', by rw [← h3]; exact h, Nat.le_refl _, fun _ => rfl⟩⟩
theorem Zpi {g : G} {a : Act} {w : World} (hs : Sim C g E s a w) {t b : Nat} (h : Zau E s a w g (.slot t) b) :
  b < w.heap.size ∧ ¬ g.susp b ∧ ∀ o x, nth g.obs o = some (some x) → 0 < x.2.2.2 → x.2.1 ≠ b := by
 obtain ⟨sz, es, e, rv, h1, h2⟩ := ZiG hs h
 obtain ⟨_, ⟨xs, k⟩, k2, _⟩ := h1.own sz es e rfl
 exact ⟨(Za3 k h2).1, (k2 b h2).1, (k2 b h2).2.2⟩
theorem Sim.leave {g : G} {a : Act} {w : World} (hs : Sim C g E s a w) : Sim C (g.away E s a w) [] s ZaQ w := by
 have own2 : ∀ v rv, OwnOk C g w v rv → (∀ sz es e b, v = .list sz es (.own e) → rv.ownBlock = some b → ∀ t, ¬ Zau E s a w g (.slot t) b) → OwnOk C (g.away E s a w) w v rv := by
  intro v rv h hne
  refine ⟨fun sz es e hv => ?_, h.agg⟩
  obtain ⟨h1, h2, h3, h4⟩ := h.own sz es e hv
  refine ⟨h1, h2, fun b hb => ?_, h4⟩
  obtain ⟨h5, h6, h7⟩ := h3 b hb
  refine ⟨fun hc => ?_, h6, h7⟩
  rcases hc with hc | ⟨t, ht⟩
  ·exact h5 hc
  ·exact hne sz es e b hv hb t ht
 exact {
  len := rfl
  env := fun t v hv => by simp [nth] at hv
  olen := hs.olen
  obj := fun o ob ho => by
   obtain ⟨x, hx, hr⟩ := hs.obj o ob ho
   obtain ⟨arr, cap, b1, b2, b3, b4, b5, b7, b6⟩ := hr.blk
   refine ⟨x, hx, hr.ver, hr.esz, hr.ty, hr.known, ⟨arr, cap, b1, b2, b3, b4, b5, b7, fun i e j c h1 h2 => ?_⟩, hr.sz, hr.flat, hr.base, fun hp hc => ?_, hr.nimm⟩
   ·obtain ⟨rv, r1, r2, r3⟩ := b6 i e j c h1 h2
    refine ⟨rv, r1, r2.same hs.sub rfl rfl rfl, own2 c rv r3 fun sz es e' b hv hb t ht => ?_⟩
    have := hs.own (.slot t) (.cell o i j) b ht ⟨ob, x, e, sz, es, e', rv, ho, hx, h1, by rw [h2, hv], Zax (b1 (hr.real h1 h2)) r1, hb⟩
    cases this
   ·rcases hc with hc | ⟨t, ht⟩
    ·exact hr.nsusp hp hc
    ·exact (Zpi hs ht).2.2 o x hx hp rfl
  gone := hs.gone
  inj := hs.inj
  own := fun p q b hp hq => by
   cases p with
   | slot t => obtain ⟨sz, es, e, rv, h1, _⟩ := hp; simp [nth] at h1
   | cell o i j => cases q with
    | slot t => obtain ⟨sz, es, e, rv, h1, _⟩ := hq; simp [nth] at h1
    | cell o' i' j' => exact hs.own _ _ b hp hq
  sub := hs.sub
  immlt := hs.immlt
  basele := hs.basele
  susplt := fun b hb => by
   rcases hb with hb | ⟨t, ht⟩
   ·exact hs.susplt b hb
   ·exact (Zpi hs ht).1 }
theorem Sim.quit {g : G} {a : Act} {w : World} (hs : Sim C g E s a w) : Sim C g [] s ZaQ w where
 len := rfl
 env := fun t v hv => by simp [nth] at hv
 olen := hs.olen
 obj := hs.obj
 gone := hs.gone
 inj := hs.inj
 own := fun p q b hp hq => by
  cases p with
  | slot t => obtain ⟨sz, es, e, rv, h1, _⟩ := hp; simp [nth] at h1
  | cell o i j => cases q with
   | slot t => obtain ⟨sz, es, e, rv, h1, _⟩ := hq; simp [nth] at h1
   | cell o' i' j' => exact hs.own _ _ b hp hq
 sub := hs.sub
 immlt := hs.immlt
 basele := hs.basele
 susplt := hs.susplt
theorem Sim.back {g g' : G} {a : Act} {w w' : World} {s' : S} (hs : Sim C g E s a w) (hle : Le s.length (g.away E s a w) w g' w') (hs' : Sim C g' [] s' ZaQ w') :
  Sim C { g' with susp := g.susp } E s' a w' ∧ ∀ keep, keep ≤ s.length → Le keep g w { g' with susp := g.susp } w' := by
 have hk : Keeps g w { g' with susp := g.susp } w' := ⟨hle.keeps.imm, hle.keeps.safe, hle.keeps.cell⟩
 have hol : ObsLe g { g' with susp := g.susp } := ⟨by rw [hs.olen]; exact hle.klen, fun o ho x' hx => hle.obs o (by rw [← hs.olen]; exact ho) x' hx⟩
 have hslot : ∀ t b, Zau E s a w g (.slot t) b → g'.susp b := fun t b h => (hle.susp b).2 (.inr ⟨t, h⟩)
 have cellns : ∀ o i j b, Zau [] s' ZaQ w' g' (.cell o i j) b → ¬ g'.susp b := by
  intro o i j b h
  obtain ⟨sz, es, e, rv, h1, h2⟩ := ZiG hs' h
  obtain ⟨_, _, k2, _⟩ := h1.own sz es e rfl
  exact (k2 b h2).1
 refine ⟨{
  len := hs.len
  env := fun t v hv => by
   obtain ⟨rv, h1, h2, h3⟩ := hs.env t v hv
   refine ⟨rv, h1, h2.keeps hs.sub hk hol, ⟨fun sz es e hv' => ?_, h3.agg⟩⟩
   obtain ⟨k1, ⟨xs, k2⟩, k3, k4⟩ := h3.own sz es e hv'
   have hsb : ∀ b, rv.ownBlock = some b → (g.away E s a w).susp b := fun b hb => .inr ⟨t, sz, es, e, rv, by rw [hv, hv'], h1, hb⟩
   refine ⟨k1, ⟨xs, ?_⟩, fun b hb => ?_, k4⟩
   ·have := Zbj k2 fun b hb => (hle.sus b (hsb b hb)).1
    have hbase : g'.base = g.base := hle.base
    show w'.ownsRow g'.base e _ rv es.length xs
    rw [hbase]; exact this
   ·obtain ⟨k5, k6, k7⟩ := k3 b hb
    refine ⟨k5, fun i hi hc => k6 i hi ((hle.sus b (hsb b hb)).2.1 i hc), fun o x hx hp hq => ?_⟩
    obtain ⟨ob, hob⟩ := hs'.gone o x hx
    have := (hs'.at_obj hob hx).nsusp hp
    rw [hq] at this
    exact this ((hle.susp b).2 (hsb b hb))
  olen := hs'.olen
  obj := fun o ob ho => by
   obtain ⟨x, hx, hr⟩ := hs'.obj o ob ho
   obtain ⟨arr, cap, b1, b2, b3, b4, b5, b7, b6⟩ := hr.blk
   refine ⟨x, hx, hr.ver, hr.esz, hr.ty, hr.known, ⟨arr, cap, b1, b2, b3, b4, b5, b7, fun i e j c h1 h2 => ?_⟩, hr.sz, hr.flat, hr.base, fun hp hc => hr.nsusp hp ((hle.susp _).2 (.inl hc)), hr.nimm⟩
   obtain ⟨rv, r1, r2, r3⟩ := b6 i e j c h1 h2
   refine ⟨rv, r1, r2.same hs'.sub rfl rfl rfl, ⟨fun sz es e' hv => ?_, r3.agg⟩⟩
   obtain ⟨k1, k2, k3, k4⟩ := r3.own sz es e' hv
   refine ⟨k1, k2, fun b hb => ?_, k4⟩
   obtain ⟨k5, k6, k7⟩ := k3 b hb
   exact ⟨fun hc => k5 ((hle.susp b).2 (.inl hc)), k6, k7⟩
  gone := hs'.gone
  inj := hs'.inj
  own := fun p q b hp hq => by
   cases p with
   | slot t => cases q with
    | slot t' => exact hs.own (.slot t) (.slot t') b hp hq
    | cell o i j => exact absurd (hslot t b hp) (cellns o i j b hq)
   | cell o i j => cases q with
    | slot t => exact absurd (hslot t b hq) (cellns o i j b hp)
    | cell o' i' j' => exact hs'.own _ _ b hp hq
  sub := hs'.sub
  immlt := hs'.immlt
  basele := hs'.basele
  susplt := fun b hb => Nat.lt_of_lt_of_le (hs.susplt b hb) hle.size }, fun keep hkp => {
  keeps := hk
  size := hle.size
  os := hle.os
  tape := hle.tape
  output := hle.output
  base := hle.base
  susp := fun _ => Iff.rfl
  low := hle.low
  sus := fun b hb => hle.sus b (.inl hb)
  klen := Nat.le_trans hkp hle.klen
  obs := fun o ho x' hx => hle.obs o (Nat.lt_of_lt_of_le ho hkp) x' hx }⟩
theorem Zjl {Φ : Zan} (hΦ : Zaa P C Φ) {c : Call} {x : Operand} {f : FuncId} {args caps : List V} {K : V → S → Option R} {r : R} (ho : o.op = .call c) (hcal : c.callee = .value x) (hx : ev E x = some (.fn f caps))
  (ha : Zb3 C E s c args) (hm : C.mode f = .shared) (h : Φ R f ((args ++ caps).map V.noOwn) s K = some r) :
  ∃ v s', K v s' = some r ∧ ZbW P C o E s v E s' := by
 have h2 := hΦ R f _ s K r h
 rw [hm] at h2
 obtain ⟨v, s', h3, hst, hsl, h4⟩ := h2
 refine ⟨v, s', h3, hsl, fun g a w keep hkp hs next Q hnext => ?_⟩
 obtain ⟨cv, hrx, hl, hc⟩ := (hs.ev hx).1.fn_inv
 obtain ⟨q1, q2⟩ := Zoc hs ha hl hc
 unfold Oper.wp
 rw [Zha ho hcal hrx]
 refine h4 (g.away E s a w) w _ s.length (Nat.le_refl _) hs.leave (by rw [List.length_map]; exact q1) (fun i u rv hu hr => ?_) o a next Q fun rv w' hw => ?_
 ·obtain ⟨u0, hu0, rfl⟩ := Zal hu
  exact ⟨((q2 i u0 rv hu0 hr).noOwn).same hs.sub rfl rfl rfl, ZaF u0⟩
 ·obtain ⟨g', hle, hs', hv⟩ := hw
  obtain ⟨k1, k2⟩ := hs.back hle hs'
  exact hnext _ rv w' (k2 keep hkp) (k1.put0 o.dst (hv.same hs'.sub rfl rfl rfl) hst)
theorem ZpX (hC : Ok P C) {Φ : Zan} (hΦ : Zaa P C Φ) {ops : List Oper} {K : V → List V → S → Option R} {r : R} (h : opV C Φ ops o E s K = some r) :
  ∃ v E' s', K v E' s' = some r ∧ ZbW P C o E s v E' s' := by
 unfold opV at h
 split at h
 ·rename_i c ho
  split at h <;> first | (cases h; done) | skip
  rename_i args ha
  split at h
  ·rename_i b hcal
   obtain ⟨v, s', h1, _, h2, _⟩ := ZeK hC ho hcal ha h
   exact ⟨v, _, s', h1, h2⟩
  ·rename_i x hcal
   obtain ⟨fv, hf, h2⟩ := Zae h
   split at h2 <;> first | (cases h2; done) | skip
   rename_i f caps
   unfold Zvn at h2
   split at h2
   ·rename_i hm
    obtain ⟨as, hfr, h2⟩ := Zc5 (f := ZbU true s 12) (g := ZaY true s 12) (fun a K r h => ZcO h) h2
    obtain ⟨v, h3, h4⟩ := ZhB hΦ (K := fun v s' => K v E s') ho hcal hf (Zb3.argsN ha) hm hfr h2
    exact ⟨v, E, s, h3, h4⟩
   ·rename_i hm
    obtain ⟨v, s', h3, h4⟩ := Zjl hΦ (K := fun v s' => K v E s') ho hcal hf (Zb3.argsN ha) hm h2
    exact ⟨v, E, s', h3, h4⟩
   ·rename_i hm
    obtain ⟨as, hfr, h2⟩ := Zc5 (f := ZbU true s 12) (g := ZaY true s 12) (fun a K r h => ZcO h) h2
    obtain ⟨v, h3, h4⟩ := Zij hΦ (K := fun v s' => K v E s') ho hcal hf (Zb3.argsN ha) hm hfr h2
    exact ⟨v, E, s, h3, h4⟩
  ·cases h
 ·exact Zw1 hC h
theorem Sim.void {g : G} {a : Act} {w : World} (hs : Sim C g E s a w) {e : TypeId} (hk : (C.ty e).known = true) :
  Sim C (g.add (0, 0, (C.ty e).size, 0)) E (s ++ [some { es := [], esz := (C.ty e).size, elem := e, ver := 0 }]) a w ∧ ∀ keep, keep ≤ s.length → Le keep g w (g.add (0, 0, (C.ty e).size, 0)) w := by
 have hkeep : Keeps g w (g.add (0, 0, (C.ty e).size, 0)) w := Keeps.add g w _ fun _ _ _ => rfl
 have own2 : ∀ v rv, OwnOk C g w v rv → OwnOk C (g.add (0, 0, (C.ty e).size, 0)) w v rv := by
  intro v rv h
  refine ⟨fun sz es e hv => ?_, h.agg⟩
  obtain ⟨h1, h2, h3, h4⟩ := h.own sz es e hv
  refine ⟨h1, h2, fun b hb => ⟨(h3 b hb).1, (h3 b hb).2.1, fun o x hx hp => ?_⟩, h4⟩
  rcases ZaB hx with ⟨_, hx⟩ | ⟨_, hx⟩
  ·exact (h3 b hb).2.2 o x hx hp
  ·obtain rfl := Option.some.inj hx
   exact absurd hp (Nat.lt_irrefl 0)
 have key : ∀ p b, Zau E (s ++ [some { es := [], esz := (C.ty e).size, elem := e, ver := 0 }]) a w (g.add (0, 0, (C.ty e).size, 0)) p b → Zau E s a w g p b := by
  intro p b hp
  cases p with
  | slot t => exact hp
  | cell o i j =>
   obtain ⟨ob, x, el, sz, es, e', rv, h1, h2, h3, h4, h5, h6⟩ := hp
   rcases ZaB h1 with ⟨hlt, h1'⟩ | ⟨_, h1'⟩
   ·simp only [G.add, Zap (by rw [hs.olen]; exact hlt : o < g.obs.length)] at h2
    exact ⟨ob, x, el, sz, es, e', rv, h1', h2, h3, h4, h5, h6⟩
   ·obtain rfl := Option.some.inj h1'
    simp [nth] at h3
 refine ⟨{
  len := hs.len
  env := fun t v hv => by
   obtain ⟨rv, h1, h2, h3⟩ := hs.env t v hv
   exact ⟨rv, h1, h2.keeps hs.sub hkeep (ObsLe.add g _), own2 v rv h3⟩
  olen := by simp [G.add, hs.olen]
  obj := fun o ob ho => by
   rcases ZaB ho with ⟨hlt, ho'⟩ | ⟨rfl, ho'⟩
   ·obtain ⟨x, hx, hr⟩ := hs.obj o ob ho'
    obtain ⟨arr, cap, b1, b2, b3, b4, b5, b7, b6⟩ := hr.blk
    refine ⟨x, by simp only [G.add]; rw [Zap (by rw [hs.olen]; exact hlt)]; exact hx, hr.ver, hr.esz, hr.ty, hr.known, ⟨arr, cap, b1, b2, b3, b4, b5, b7, fun i el j c h1 h2 => ?_⟩, hr.sz, hr.flat, hr.base, hr.nsusp, hr.nimm⟩
    obtain ⟨rv, r1, r2, r3⟩ := b6 i el j c h1 h2
    exact ⟨rv, r1, r2.keeps hs.sub hkeep (ObsLe.add g _), own2 c rv r3⟩
   ·obtain rfl := Option.some.inj ho'
    exact ⟨(0, 0, (C.ty e).size, 0), by simp only [G.add]; rw [← hs.olen, ZaZ], rfl, rfl, rfl, hk, ⟨#[], 0, fun hp => absurd hp (Nat.lt_irrefl 0), rfl, by simp, Nat.zero_le _, Nat.le_refl _, fun k v hv => by simp at hv, fun i el j c h1 => by simp [nth] at h1⟩,
     fun i el h1 => by simp [nth] at h1, fun i el j c h1 => by simp [nth] at h1, fun hp => absurd hp (Nat.lt_irrefl 0), fun hp => absurd hp (Nat.lt_irrefl 0), fun hp => absurd hp (Nat.lt_irrefl 0)⟩
  gone := fun o x hx => by
   rcases ZaB hx with ⟨hlt, hx'⟩ | ⟨rfl, hx'⟩
   ·obtain ⟨ob, hob⟩ := hs.gone o x hx'
    exact ⟨ob, by rw [Zap (by rw [← hs.olen]; exact hlt)]; exact hob⟩
   ·exact ⟨_, by rw [hs.olen, ZaZ]⟩
  inj := fun o o' x x' hx hx' hp hp' hb => by
   rcases ZaB hx with ⟨_, k1⟩ | ⟨_, k1⟩ <;> rcases ZaB hx' with ⟨_, k2⟩ | ⟨_, k2⟩
   ·exact hs.inj o o' x x' k1 k2 hp hp' hb
   ·obtain rfl := Option.some.inj k2; exact absurd hp' (Nat.lt_irrefl 0)
   ·obtain rfl := Option.some.inj k1; exact absurd hp (Nat.lt_irrefl 0)
   ·obtain rfl := Option.some.inj k1; exact absurd hp (Nat.lt_irrefl 0)
  own := fun p q b hp hq => hs.own p q b (key p b hp) (key q b hq)
  sub := hs.sub
  immlt := hs.immlt
  basele := hs.basele
  susplt := hs.susplt }, fun keep hk => {
  keeps := hkeep
  size := Nat.le_refl _
  os := rfl
  tape := rfl
  output := rfl
  base := rfl
  susp := fun _ => Iff.rfl
  low := fun _ _ => rfl
  sus := fun _ _ => ⟨rfl, fun _ h => h, fun _ h => h⟩
  klen := by simp [G.add, hs.olen]; omega
  obs := fun o ho x' hx => (ObsLe.add g _).at_ o (by rw [hs.olen]; omega) x' hx }⟩
theorem Zxz {e : TypeId} (hke : (C.ty e).known = true) (hrun : ∀ g a w, Sim C g E s a w → (execOp a.eval o).run P w = .ok (.value (.slice none 0 0)) w) :
  ZbW P C o E s (.arr s.length 0 0 0) E (newOb C s [] e) := by
 refine ⟨by simp [newOb], fun g a w keep hkp hs next Q hnext => ?_⟩
 obtain ⟨k1, k2⟩ := hs.void (E := E) hke
 unfold Oper.wp
 rw [hrun g a w hs]
 refine hnext _ _ w (k2 keep hkp) (k1.put0 o.dst (.arr _ _ _ _ _ _ (Nat.le_refl 0) (by simp [G.add, hs.olen]) fun x hx => ?_) (by simp [V.still]))
 simp only [G.add] at hx
 rw [← hs.olen, ZaZ] at hx
 obtain rfl := Option.some.inj (Option.some.inj hx)
 exact ⟨Nat.le_refl _, fun _ => ⟨.inl rfl, by simp⟩⟩
theorem Sim.trunc {g : G} {a : Act} {w : World} (hs : Sim C g E s a w) {oo n : Nat} {ob : Ob} (ho : nth s oo = some (some ob)) : Sim C g E (ZaM s oo (some { ob with es := ob.es.take n })) a w := by
 have hset : ∀ o' ob', nth (ZaM s oo (some { ob with es := ob.es.take n })) o' = some (some ob') → (o' = oo ∧ ob' = { ob with es := ob.es.take n }) ∨ (o' ≠ oo ∧ nth s o' = some (some ob')) := by
  intro o' ob' h
  by_cases hoo : oo = o'
  ·subst hoo
   have := ZaI h
   exact .inl ⟨rfl, Option.some.inj this⟩
  ·rw [Zat hoo] at h
   exact .inr ⟨fun hc => hoo hc.symm, h⟩
 have key : ∀ p b, Zau E (ZaM s oo (some { ob with es := ob.es.take n })) a w g p b → Zau E s a w g p b := by
  intro p b hp
  cases p with
  | slot t => exact hp
  | cell o' i j =>
   obtain ⟨ob', x, el, sz, es, e', rv, h1, h2, h3, h4, h5, h6⟩ := hp
   rcases hset o' ob' h1 with ⟨rfl, rfl⟩ | ⟨_, h1'⟩
   ·exact ⟨ob, x, el, sz, es, e', rv, ho, h2, (Zb6 h3).1, h4, h5, h6⟩
   ·exact ⟨ob', x, el, sz, es, e', rv, h1', h2, h3, h4, h5, h6⟩
 exact {
  len := hs.len
  env := hs.env
  olen := by rw [Zaq]; exact hs.olen
  obj := fun o' ob' ho' => by
   rcases hset o' ob' ho' with ⟨rfl, rfl⟩ | ⟨_, ho2⟩
   ·obtain ⟨x, hx, hr⟩ := hs.obj o' ob ho
    obtain ⟨arr, cap, b1, b2, b3, b4, b5, b7, b6⟩ := hr.blk
    exact ⟨x, hx, hr.ver, hr.esz, hr.ty, hr.known, ⟨arr, cap, b1, b2, b3, b4, by simp; omega, b7, fun i el j c h1 h2 => b6 i el j c (Zb6 h1).1 h2⟩, fun i el h1 => hr.sz i el (Zb6 h1).1, fun i el j c h1 h2 => hr.flat i el j c (Zb6 h1).1 h2, hr.base, hr.nsusp, hr.nimm⟩
   ·exact hs.obj o' ob' ho2
  gone := fun o' x hx => by
   obtain ⟨ob', hob'⟩ := hs.gone o' x hx
   by_cases hoo : oo = o'
   ·subst hoo
    exact ⟨_, Zd9 ho⟩
   ·exact ⟨ob', by rw [Zat hoo]; exact hob'⟩
  inj := hs.inj
  own := fun p q b hp hq => hs.own p q b (key p b hp) (key q b hq)
  sub := hs.sub
  immlt := hs.immlt
  basele := hs.basele
  susplt := hs.susplt }
theorem ZAo (hC : Ok P C) {Φ : Zan} (hΦ : Zaa P C Φ) {ops : List Oper} {K : V → List V → S → Option R} {r : R} (h : opX C Φ ops o E s K = some r) :
  ∃ v E' s', K v E' s' = some r ∧ ZbW P C o E s v E' s' := by
 unfold opX at h
 split at h
 ·exact ZpX hC hΦ h
 ·split at h
  ·rename_i ho
   split at h <;> first | (cases h; done) | skip
   rename_i e he
   obtain ⟨hg, h2⟩ := Zab h
   simp only [Bool.and_eq_true] at hg
   exact ⟨_, _, _, h2, Zxz hg.2 fun g a w hs => by simp [execOp, ho, Act.eval]⟩
  ·rename_i t ho
   split at h <;> first | (cases h; done) | skip
   rename_i e he
   obtain ⟨hg, h2⟩ := Zab h
   simp only [Bool.and_eq_true] at hg
   exact ⟨_, _, _, h2, Zhj (ps := []) hC hg.1 he hg.2 ho rfl rfl (by simp) rfl⟩
  ·rename_i c ho
   split at h
   ·rename_i oo ver len l hcal ha
    unfold Zxm at h
    split at h <;> first | (cases h; done) | skip
    rename_i ob hob
    split at h <;> first | (cases h; done) | skip
    obtain ⟨v, E', s', h2, h3, h4⟩ := ZpX hC hΦ h
    obtain ⟨hob1, _⟩ := Zb1 hob
    rw [Zaq] at h3
    exact ⟨v, E', s', h2, h3, fun g a w keep hk hs next Q hn => h4 g a w keep (by rw [Zaq]; exact hk) (hs.trunc hob1) next Q hn⟩
   ·exact ZpX hC hΦ h
  ·exact ZpX hC hΦ h
end
end Go.VM
