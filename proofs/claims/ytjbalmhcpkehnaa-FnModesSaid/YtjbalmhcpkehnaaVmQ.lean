/- Calls, within a frame. -/
import Derived.Test.YtjbalmhcpkehnaaVmP
set_option linter.unusedSimpArgs false
set_option linter.unusedVariables false
namespace Go.VM
open Go.RowKit Go.Lib
section
variable {P : Program} {C : Cfg} {o : Oper} {E : List V} {s : S} {R : Type}
def Zbn (C : Cfg) (E : List V) (s : S) (c : Call) (args : List V) : Prop :=
 args.length = c.args.toList.length ∧ ∀ g a w, Sim C g E s a w → ∀ i v, nth args i = some v → ∃ x, nth c.args.toList i = some x ∧ VR g w v (a.eval x)
theorem Zbn.of {c : Call} {args : List V} (h : ZeI C E c.argTypes.toList c.args.toList = some args) : Zbn C E s c args :=
 ⟨(ZdE h).1, fun g a w hs i v hv => (ZfJ hs h).2 i v hv⟩
theorem Zmd {x : Operand} (h : Zju x = true) : x = .const (.slice none 0 0) := by
 unfold Zju at h
 split at h
 ·rfl
 ·cases h
theorem Zhu : ∀ {xs : List Operand} {vs : List V}, (ZcV xs vs).length = vs.length ∧ ∀ i v, nth (ZcV xs vs) i = some v → nth vs i = some v ∨ (v = .nils ∧ nth xs i = some (.const (.slice none 0 0)))
 | [], vs => ⟨by simp [ZcV], fun i v h => .inl (by simpa [ZcV] using h)⟩
 | x :: xs, [] => ⟨by simp [ZcV], fun i v h => .inl (by simpa [ZcV] using h)⟩
 | x :: xs, v :: vs => by
  obtain ⟨h1, h2⟩ := Zhu (xs := xs) (vs := vs)
  refine ⟨by simp [ZcV, h1], fun i u hu => ?_⟩
  cases i with
  | zero =>
   simp only [ZcV, nth] at hu ⊢
   split at hu
   ·rename_i hb
    exact .inr ⟨(Option.some.inj hu).symm, by rw [Zmd hb]⟩
   ·exact .inl hu
  | succ i => exact h2 i u hu
theorem Zbn.nils {c : Call} {args : List V} (h : Zbn C E s c args) : Zbn C E s c (ZcV c.args.toList args) := by
 obtain ⟨h1, h2⟩ := Zhu (xs := c.args.toList) (vs := args)
 refine ⟨h1.trans h.1, fun g a w hs i v hv => ?_⟩
 rcases h2 i v hv with h3 | ⟨rfl, h3⟩
 ·exact h.2 g a w hs i v h3
 ·exact ⟨_, h3, .data .nils⟩
theorem Zbn.argsN {b : Bool} {c : Call} {args : List V} (h : ZeI C E c.argTypes.toList c.args.toList = some args) : Zbn C E s c (Go.VM.argsN b c.args.toList args) := by
 unfold Go.VM.argsN
 split
 ·exact (Zbn.of h).nils
 ·exact Zbn.of h
theorem ZjZ {g : G} {a : Act} {w : World} (hs : Sim C g E s a w) {c : Call} {args caps : List V} {cv : List Value} (ha : Zbn C E s c args)
  (hl : caps.length = cv.length) (hc : ∀ i c v, nth caps i = some c → nth cv i = some v → VR g w c v) :
  (args ++ caps).length = (c.args.map a.eval ++ cv.toArray).size ∧
   ∀ (i : Nat) (u : V) (rv : Value), nth (args ++ caps) i = some u → (c.args.map a.eval ++ cv.toArray)[i]? = some rv → VR g w u rv := by
 obtain ⟨h1, h2'⟩ := ha
 have h2 := h2' g a w hs
 have hsz : args.length = (c.args.map a.eval).size := by rw [h1]; simp
 refine ⟨by simp [h1, hl], fun i u rv hu hr => ?_⟩
 by_cases hlt : i < args.length
 ·rw [Zai hlt] at hu
  obtain ⟨x, hx, hv⟩ := h2 i u hu
  rw [Array.getElem?_append_left (by rw [← hsz]; exact hlt), Array.getElem?_map] at hr
  have : c.args[i]? = some x := by rw [← Array.getElem?_toList, ← Zac]; exact hx
  rw [this] at hr
  obtain rfl := Option.some.inj hr
  exact hv
 ·rw [ZaF (by omega)] at hu
  rw [Array.getElem?_append_right (by omega), ← hsz, Za8] at hr
  exact hc _ u rv hu hr
theorem ZfC {a : Act} {w : World} {c : Call} {x : Operand} {f : FuncId} {cv : List Value} (ho : o.op = .call c) (hcal : c.callee = .value x) (hx : a.eval x = .func (.func f) #[] cv.toArray) :
  (execOp a.eval o).run P w = (callFunc f (c.args.map a.eval ++ cv.toArray)).run P w := by
 unfold execOp
 simp [ho, resolve, hcal, hx, Deferred.ofValue, invoke]
theorem Zic {t : TypeId} {v : V} {K : V → Option R} {r : R} (h : Zr6 C t v K = some r) : K v = some r := by
 unfold Zr6 at h
 split at h
 ·obtain ⟨es, f, rfl, h2⟩ := ZaH h
  exact h2
 ·split at h
  ·obtain ⟨cs, rfl, h2⟩ := Zca h
   exact (Zc6 h2).2
  ·split at h <;> first | (cases h; done) | skip
   exact Zd3 h
theorem Zfk : ∀ {ts : List TypeId} {l : List V} {K : List V → Option R} {r : R}, Znt C ts l K = some r → K l = some r
 | [], l, K, r, h => by
  obtain ⟨rfl, h2⟩ := Zeg h
  exact h2
 | t :: ts, l, K, r, h => by
  obtain ⟨a, m, rfl, h2⟩ := ZbM h
  have h3 := Zic h2
  exact Zfk (K := fun l => K (a :: l)) h3
theorem Zev {ts : List TypeId} {v : V} {K : V → Option R} {r : R} (h : Zjh C ts v K = some r) : K v = some r := by
 unfold Zjh at h
 split at h
 ·exact Zic h
 ·split at h <;> first | (cases h; done) | skip
  exact Zfk (K := fun l => K (.tuple l)) h
theorem ZfH {Φ : Zar} (hΦ : Zab P C Φ) {c : Call} {x : Operand} {f : FuncId} {args caps as : List V} {K : V → S → Option R} {r : R} (ho : o.op = .call c) (hcal : c.callee = .value x) (hx : ev E x = some (.fn f caps))
  (ha : Zbn C E s c args) (hm : C.mode f = .pure) (hfr : ZaV (freeze true s 12) (args ++ caps) = some as) (h : (Φ R f as [] fun v _ => Zjh C (C.res f) v fun v => K v s) = some r) :
  ∃ v, K v s = some r ∧ Zbj P C o E s v E s := by
 have h2 := hΦ R f as [] _ r h
 rw [hm] at h2
 obtain ⟨v, h3', hst, h4⟩ := h2 rfl
 have h3 := Zev h3'
 refine ⟨v, h3, Nat.le_refl _, fun g a w keep hkp hs next Q hnext => ?_⟩
 obtain ⟨cv, hrx, hl, hc⟩ := (hs.ev hx).1.fn_inv
 obtain ⟨q1, q2⟩ := ZjZ hs ha hl hc
 obtain ⟨m1, m2⟩ := Zbe hfr
 unfold Oper.wp
 rw [ZfC ho hcal hrx]
 let gv : G := { g with imm := fun b i => g.imm b i ∨ ∃ o x, nth g.obs o = some (some x) ∧ 0 < x.2.2.2 ∧ x.2.1 = b }
 have hkv : Keeps g w gv w := ⟨fun _ _ h => .inl h, fun _ _ h => h, fun _ _ _ => rfl⟩
 refine h4 gv w _ (fun b i hb => .inl (hs.sub b i hb)) (fun b i hb => ?_) (by rw [← m1, q1]) (fun i u rv hu hr => ?_) o a next Q fun rv w' hw => ?_
 ·rcases hb with hb | ⟨oo, xx, hxx, hp, rfl⟩
  ·exact hs.immlt b i hb
  ·obtain ⟨ob, hob⟩ := hs.gone oo xx hxx
   obtain ⟨arr, cap, b1, _⟩ := (hs.at_obj hob hxx).blk
   exact ZaN (b1 hp)
 ·obtain ⟨v0, hv0, hf0⟩ := m2 i u hu
  exact ⟨Zfo (g' := gv) hs (fun _ b i hb => Or.inl (hs.sub b i hb)) hkv (fun oo xx i hxx hp => by show gv.imm _ _; exact .inr ⟨oo, xx, hxx, hp, rfl⟩) 12 hf0 (q2 i v0 rv hv0 hr), ZcO hf0⟩
 ·obtain ⟨w1, w2, w3, w4, w5, N, w6, w7⟩ := hw
  obtain ⟨k1, _⟩ := hs.more w1 w2 N w6
  have k2 := Le.more hs w1 w2 w3 w4 w5 N w6 hkp
  have w8 : DR (g.more N) w' true v rv := DR.safely (g := gv.more N) (g' := g.more N) (fun b i hb => hb) (fun _ _ _ => rfl) w7
  exact hnext _ rv w' k2 (k1.put0 o.dst (.data w8.weak) hst)
theorem Zgc {Φ : Zar} (hΦ : Zab P C Φ) {c : Call} {x : Operand} {f : FuncId} {args caps as : List V} {K : V → S → Option R} {r : R} (ho : o.op = .call c) (hcal : c.callee = .value x) (hx : ev E x = some (.fn f caps))
  (ha : Zbn C E s c args) (hm : C.mode f = .own) (hfr : ZaV (freeze true s 12) (args ++ caps) = some as) (h : (Φ R f as [] fun v _ => Zjh C (C.res f) v fun v => K v s) = some r) :
  ∃ v, K v s = some r ∧ Zbj P C o E s v E s := by
 have h2 := hΦ R f as [] _ r h
 rw [hm] at h2
 obtain ⟨v, h3', sz, es, e, rfl, hke, hsz, h4⟩ := h2 rfl
 have h3 := Zev h3'
 refine ⟨_, h3, Nat.le_refl _, fun g a w keep hkp hs next Q hnext => ?_⟩
 obtain ⟨cv, hrx, hl, hc⟩ := (hs.ev hx).1.fn_inv
 obtain ⟨q1, q2⟩ := ZjZ hs ha hl hc
 obtain ⟨m1, m2⟩ := Zbe hfr
 unfold Oper.wp
 rw [ZfC ho hcal hrx]
 let gv : G := { g with imm := fun b i => g.imm b i ∨ ∃ o x, nth g.obs o = some (some x) ∧ 0 < x.2.2.2 ∧ x.2.1 = b }
 have hkv : Keeps g w gv w := ⟨fun _ _ h => .inl h, fun _ _ h => h, fun _ _ _ => rfl⟩
 refine h4 gv w _ (fun b i hb => .inl (hs.sub b i hb)) (fun b i hb => ?_) (by rw [← m1, q1]) (fun i u rv hu hr => ?_) o a next Q fun rv w' hw => ?_
 ·rcases hb with hb | ⟨oo, xx, hxx, hp, rfl⟩
  ·exact hs.immlt b i hb
  ·obtain ⟨ob, hob⟩ := hs.gone oo xx hxx
   obtain ⟨arr, cap, b1, _⟩ := (hs.at_obj hob hxx).blk
   exact ZaN (b1 hp)
 ·obtain ⟨v0, hv0, hf0⟩ := m2 i u hu
  exact ⟨Zfo (g' := gv) hs (fun _ b i hb => Or.inl (hs.sub b i hb)) hkv (fun oo xx i hxx hp => by show gv.imm _ _; exact .inr ⟨oo, xx, hxx, hp, rfl⟩) 12 hf0 (q2 i v0 rv hv0 hr), ZcO hf0⟩
 ·obtain ⟨w1, w2, w3, w4, w5, N, w6, w7, ⟨xs, w8⟩, w9⟩ := hw
  obtain ⟨k1, _⟩ := hs.more w1 w2 N w6
  have k2 := Le.more hs w1 w2 w3 w4 w5 N w6 hkp
  have hdr : DR (g.more N) w' true (.list sz es (.own e)) rv := DR.safely (g := gv.more N) (g' := g.more N) (fun b i hb => hb) (fun _ _ _ => rfl) w7
  have hnew : ∀ b, rv.ownBlock = some b → w.heap.size ≤ b := fun b hb => (ZaL w8 hb).2
  refine hnext _ rv w' k2 (k1.put o.dst (.data hdr.weak) ⟨fun sz' es' e' hv => ?_, fun cs hv => by cases hv⟩ fun sz' es' e' b hv hb p _ hp => ?_)
  ·injection hv with h1 h2 h3
   injection h3 with h3
   subst h1 h2 h3
   refine ⟨hke, ⟨xs, ?_⟩, fun b hb => ⟨fun hsus => ?_, fun i hi him => ?_, fun oo xx hxx hp hxb => ?_⟩, hsz⟩
   ·obtain ⟨z1, z2⟩ := w8
    refine ⟨z1, ?_⟩
    rcases z2 with z2 | ⟨gb, cap, cur, z3, z4, z5⟩
    ·exact .inl z2
    ·exact .inr ⟨gb, cap, cur, z3, Nat.le_trans hs.basele z4, z5⟩
   ·have := hs.susplt b hsus
    have := hnew b hb
    omega
   ·rcases him with him | him
    ·have := hs.immlt b i him
     have := hnew b hb
     omega
    ·exact w9 b hb i hi him
   ·obtain ⟨ob, hob⟩ := hs.gone oo xx hxx
    obtain ⟨arr, cap, b1, _⟩ := (hs.at_obj hob hxx).blk
    have := ZaN (b1 hp)
    have := hnew b hb
    omega
  ·have := Zjx hs (ZgJ hs w2 rfl hp)
   have := hnew b hb
   omega
def G.away (g : G) (E : List V) (s : S) (a : Act) (w : World) : G := { g with susp := fun b => g.susp b ∨ ∃ t, Zao E s a w g (.slot t) b }
theorem VR.same {g g' : G} {w : World} {v : V} {rv : Value} (hs : Sub g) (h : VR g w v rv) (h1 : g'.imm = g.imm) (h2 : g'.safe = g.safe) (h3 : g'.obs = g.obs) : VR g' w v rv :=
 h.keeps hs ⟨fun _ _ h => by rw [h1]; exact h, fun _ _ h => by rw [h2]; exact h, fun _ _ _ => rfl⟩ ⟨by rw [h3]; exact Nat.le_refl _, fun _ _ x' h => ⟨x', by rw [← h3]; exact h, Nat.le_refl _, fun _ => rfl⟩⟩
theorem ZkW {g : G} {a : Act} {w : World} (hs : Sim C g E s a w) {t b : Nat} (h : Zao E s a w g (.slot t) b) :
  b < w.heap.size ∧ ¬ g.susp b ∧ ∀ o x, nth g.obs o = some (some x) → 0 < x.2.2.2 → x.2.1 ≠ b := by
 obtain ⟨sz, es, e, rv, h1, h2⟩ := ZgY hs h
 obtain ⟨_, ⟨xs, k⟩, k2, _⟩ := h1.own sz es e rfl
 exact ⟨(ZaL k h2).1, (k2 b h2).1, (k2 b h2).2.2⟩
theorem Sim.leave {g : G} {a : Act} {w : World} (hs : Sim C g E s a w) : Sim C (g.away E s a w) [] s ZaE w := by
 have own2 : ∀ v rv, OwnOk C g w v rv → (∀ sz es e b, v = .list sz es (.own e) → rv.ownBlock = some b → ∀ t, ¬ Zao E s a w g (.slot t) b) → OwnOk C (g.away E s a w) w v rv := by
  intro v rv h hne
  refine ⟨fun sz es e hv => ?_, h.agg⟩
  obtain ⟨h1, h2, h3, h4⟩ := h.own sz es e hv
  refine ⟨h1, h2, fun b hb => ?_, h4⟩
  obtain ⟨h5, h6, h7⟩ := h3 b hb
  refine ⟨fun hc => ?_, h6, h7⟩
  rcases hc with hc | ⟨t, ht⟩
  ·exact h5 hc
  ·exact hne sz es e b hv hb t ht
 exact {
  len := rfl
  env := fun t v hv => by simp [nth] at hv
  olen := hs.olen
  obj := fun o ob ho => by
   obtain ⟨x, hx, hr⟩ := hs.obj o ob ho
   obtain ⟨arr, cap, b1, b2, b3, b4, b5, b7, b6⟩ := hr.blk
   refine ⟨x, hx, hr.ver, hr.esz, hr.ty, hr.known, ⟨arr, cap, b1, b2, b3, b4, b5, b7, fun i e j c h1 h2 => ?_⟩, hr.sz, hr.flat, hr.base, fun hp hc => ?_, hr.nimm⟩
   ·obtain ⟨rv, r1, r2, r3⟩ := b6 i e j c h1 h2
    refine ⟨rv, r1, r2.same hs.sub rfl rfl rfl, own2 c rv r3 fun sz es e' b hv hb t ht => ?_⟩
    have := hs.own (.slot t) (.cell o i j) b ht ⟨ob, x, e, sz, es, e', rv, ho, hx, h1, by rw [h2, hv], Zap (b1 (hr.real h1 h2)) r1, hb⟩
    cases this
   ·rcases hc with hc | ⟨t, ht⟩
    ·exact hr.nsusp hp hc
    ·exact (ZkW hs ht).2.2 o x hx hp rfl
  gone := hs.gone
  inj := hs.inj
  own := fun p q b hp hq => by
   cases p with
   | slot t => obtain ⟨sz, es, e, rv, h1, _⟩ := hp; simp [nth] at h1
   | cell o i j => cases q with
    | slot t => obtain ⟨sz, es, e, rv, h1, _⟩ := hq; simp [nth] at h1
    | cell o' i' j' => exact hs.own _ _ b hp hq
  sub := hs.sub
  immlt := hs.immlt
  basele := hs.basele
  susplt := fun b hb => by
   rcases hb with hb | ⟨t, ht⟩
   ·exact hs.susplt b hb
   ·exact (ZkW hs ht).1 }
theorem Sim.quit {g : G} {a : Act} {w : World} (hs : Sim C g E s a w) : Sim C g [] s ZaE w where
 len := rfl
 env := fun t v hv => by simp [nth] at hv
 olen := hs.olen
 obj := hs.obj
 gone := hs.gone
 inj := hs.inj
 own := fun p q b hp hq => by
  cases p with
  | slot t => obtain ⟨sz, es, e, rv, h1, _⟩ := hp; simp [nth] at h1
  | cell o i j => cases q with
   | slot t => obtain ⟨sz, es, e, rv, h1, _⟩ := hq; simp [nth] at h1
   | cell o' i' j' => exact hs.own _ _ b hp hq
 sub := hs.sub
 immlt := hs.immlt
 basele := hs.basele
 susplt := hs.susplt
theorem Sim.back {g g' : G} {a : Act} {w w' : World} {s' : S} (hs : Sim C g E s a w) (hle : Le s.length (g.away E s a w) w g' w') (hs' : Sim C g' [] s' ZaE w') :
  Sim C { g' with susp := g.susp } E s' a w' ∧ ∀ keep, keep ≤ s.length → Le keep g w { g' with susp := g.susp } w' := by
 have hk : Keeps g w { g' with susp := g.susp } w' := ⟨hle.keeps.imm, hle.keeps.safe, hle.keeps.cell⟩
 have hol : ObsLe g { g' with susp := g.susp } := ⟨by rw [hs.olen]; exact hle.klen, fun o ho x' hx => hle.obs o (by rw [← hs.olen]; exact ho) x' hx⟩
 have hslot : ∀ t b, Zao E s a w g (.slot t) b → g'.susp b := fun t b h => (hle.susp b).2 (.inr ⟨t, h⟩)
 have cellns : ∀ o i j b, Zao [] s' ZaE w' g' (.cell o i j) b → ¬ g'.susp b := by
  intro o i j b h
  obtain ⟨sz, es, e, rv, h1, h2⟩ := ZgY hs' h
  obtain ⟨_, _, k2, _⟩ := h1.own sz es e rfl
  exact (k2 b h2).1
 refine ⟨{
  len := hs.len
  env := fun t v hv => by
   obtain ⟨rv, h1, h2, h3⟩ := hs.env t v hv
   refine ⟨rv, h1, h2.keeps hs.sub hk hol, ⟨fun sz es e hv' => ?_, h3.agg⟩⟩
   obtain ⟨k1, ⟨xs, k2⟩, k3, k4⟩ := h3.own sz es e hv'
   have hsb : ∀ b, rv.ownBlock = some b → (g.away E s a w).susp b := fun b hb => .inr ⟨t, sz, es, e, rv, by rw [hv, hv'], h1, hb⟩
   refine ⟨k1, ⟨xs, ?_⟩, fun b hb => ?_, k4⟩
   ·have := ZaT k2 fun b hb => (hle.sus b (hsb b hb)).1
    have hbase : g'.base = g.base := hle.base
    show w'.ownsRow g'.base e _ rv es.length xs
    rw [hbase]; exact this
   ·obtain ⟨k5, k6, k7⟩ := k3 b hb
    refine ⟨k5, fun i hi hc => k6 i hi ((hle.sus b (hsb b hb)).2.1 i hc), fun o x hx hp hq => ?_⟩
    obtain ⟨ob, hob⟩ := hs'.gone o x hx
    have := (hs'.at_obj hob hx).nsusp hp
    rw [hq] at this
    exact this ((hle.susp b).2 (hsb b hb))
  olen := hs'.olen
  obj := fun o ob ho => by
   obtain ⟨x, hx, hr⟩ := hs'.obj o ob ho
   obtain ⟨arr, cap, b1, b2, b3, b4, b5, b7, b6⟩ := hr.blk
   refine ⟨x, hx, hr.ver, hr.esz, hr.ty, hr.known, ⟨arr, cap, b1, b2, b3, b4, b5, b7, fun i e j c h1 h2 => ?_⟩, hr.sz, hr.flat, hr.base, fun hp hc => hr.nsusp hp ((hle.susp _).2 (.inl hc)), hr.nimm⟩
   obtain ⟨rv, r1, r2, r3⟩ := b6 i e j c h1 h2
   refine ⟨rv, r1, r2.same hs'.sub rfl rfl rfl, ⟨fun sz es e' hv => ?_, r3.agg⟩⟩
   obtain ⟨k1, k2, k3, k4⟩ := r3.own sz es e' hv
   refine ⟨k1, k2, fun b hb => ?_, k4⟩
   obtain ⟨k5, k6, k7⟩ := k3 b hb
   exact ⟨fun hc => k5 ((hle.susp b).2 (.inl hc)), k6, k7⟩
  gone := hs'.gone
  inj := hs'.inj
  own := fun p q b hp hq => by
   cases p with
   | slot t => cases q with
    | slot t' => exact hs.own (.slot t) (.slot t') b hp hq
    | cell o i j => exact absurd (hslot t b hp) (cellns o i j b hq)
   | cell o i j => cases q with
    | slot t => exact absurd (hslot t b hq) (cellns o i j b hp)
    | cell o' i' j' => exact hs'.own _ _ b hp hq
  sub := hs'.sub
  immlt := hs'.immlt
  basele := hs'.basele
  susplt := fun b hb => Nat.lt_of_lt_of_le (hs.susplt b hb) hle.size }, fun keep hkp => {
  keeps := hk
  size := hle.size
  os := hle.os
  tape := hle.tape
  output := hle.output
  base := hle.base
  susp := fun _ => Iff.rfl
  low := hle.low
  sus := fun b hb => hle.sus b (.inl hb)
  klen := Nat.le_trans hkp hle.klen
  obs := fun o ho x' hx => hle.obs o (Nat.lt_of_lt_of_le ho hkp) x' hx }⟩
theorem ZgS {Φ : Zar} (hΦ : Zab P C Φ) {c : Call} {x : Operand} {f : FuncId} {args caps : List V} {K : V → S → Option R} {r : R} (ho : o.op = .call c) (hcal : c.callee = .value x) (hx : ev E x = some (.fn f caps))
  (ha : Zbn C E s c args) (hm : C.mode f = .shared) (h : Φ R f ((args ++ caps).map V.noOwn) s K = some r) :
  ∃ v s', K v s' = some r ∧ Zbj P C o E s v E s' := by
 have h2 := hΦ R f _ s K r h
 rw [hm] at h2
 obtain ⟨v, s', h3, hst, hsl, h4⟩ := h2
 refine ⟨v, s', h3, hsl, fun g a w keep hkp hs next Q hnext => ?_⟩
 obtain ⟨cv, hrx, hl, hc⟩ := (hs.ev hx).1.fn_inv
 obtain ⟨q1, q2⟩ := ZjZ hs ha hl hc
 unfold Oper.wp
 rw [ZfC ho hcal hrx]
 refine h4 (g.away E s a w) w _ s.length (Nat.le_refl _) hs.leave (by rw [List.length_map]; exact q1) (fun i u rv hu hr => ?_) o a next Q fun rv w' hw => ?_
 ·obtain ⟨u0, hu0, rfl⟩ := Zag hu
  exact ⟨((q2 i u0 rv hu0 hr).noOwn).same hs.sub rfl rfl rfl, Zav u0⟩
 ·obtain ⟨g', hle, hs', hv⟩ := hw
  obtain ⟨k1, k2⟩ := hs.back hle hs'
  exact hnext _ rv w' (k2 keep hkp) (k1.put0 o.dst (hv.same hs'.sub rfl rfl rfl) hst)
theorem Zgj (hC : Ok P C) {Φ : Zar} (hΦ : Zab P C Φ) {ops : List Oper} {K : V → List V → S → Option R} {r : R} (h : opV C Φ ops o E s K = some r) :
  ∃ v E' s', K v E' s' = some r ∧ Zbj P C o E s v E' s' := by
 unfold opV at h
 split at h
 ·rename_i c ho
  split at h <;> first | (cases h; done) | skip
  rename_i args ha
  split at h
  ·rename_i b hcal
   obtain ⟨v, s', h1, _, h2, _⟩ := ZdB hC ho hcal ha h
   exact ⟨v, _, s', h1, h2⟩
  ·rename_i x hcal
   obtain ⟨fv, hf, h2⟩ := Zaf h
   split at h2 <;> first | (cases h2; done) | skip
   rename_i f caps
   unfold ZoP at h2
   split at h2
   ·rename_i hm
    obtain ⟨as, hfr, h2⟩ := Zcg (f := Zbo true s 12) (g := freeze true s 12) (fun a K r h => ZbR h) h2
    obtain ⟨v, h3, h4⟩ := ZfH hΦ (K := fun v s' => K v E s') ho hcal hf (Zbn.argsN ha) hm hfr h2
    exact ⟨v, E, s, h3, h4⟩
   ·rename_i hm
    obtain ⟨v, s', h3, h4⟩ := ZgS hΦ (K := fun v s' => K v E s') ho hcal hf (Zbn.argsN ha) hm h2
    exact ⟨v, E, s', h3, h4⟩
   ·rename_i hm
    obtain ⟨as, hfr, h2⟩ := Zcg (f := Zbo true s 12) (g := freeze true s 12) (fun a K r h => ZbR h) h2
    obtain ⟨v, h3, h4⟩ := Zgc hΦ (K := fun v s' => K v E s') ho hcal hf (Zbn.argsN ha) hm hfr h2
    exact ⟨v, E, s, h3, h4⟩
  ·cases h
 ·exact Zpz hC h
theorem Sim.void {g : G} {a : Act} {w : World} (hs : Sim C g E s a w) {e : TypeId} (hk : (C.ty e).known = true) :
  Sim C (g.add (0, 0, (C.ty e).size, 0)) E (s ++ [some { es := [], esz := (C.ty e).size, elem := e, ver := 0 }]) a w ∧ ∀ keep, keep ≤ s.length → Le keep g w (g.add (0, 0, (C.ty e).size, 0)) w := by
 have hkeep : Keeps g w (g.add (0, 0, (C.ty e).size, 0)) w := Keeps.add g w _ fun _ _ _ => rfl
 have own2 : ∀ v rv, OwnOk C g w v rv → OwnOk C (g.add (0, 0, (C.ty e).size, 0)) w v rv := by
  intro v rv h
  refine ⟨fun sz es e hv => ?_, h.agg⟩
  obtain ⟨h1, h2, h3, h4⟩ := h.own sz es e hv
  refine ⟨h1, h2, fun b hb => ⟨(h3 b hb).1, (h3 b hb).2.1, fun o x hx hp => ?_⟩, h4⟩
  rcases Zau hx with ⟨_, hx⟩ | ⟨_, hx⟩
  ·exact (h3 b hb).2.2 o x hx hp
  ·obtain rfl := Option.some.inj hx
   exact absurd hp (Nat.lt_irrefl 0)
 have key : ∀ p b, Zao E (s ++ [some { es := [], esz := (C.ty e).size, elem := e, ver := 0 }]) a w (g.add (0, 0, (C.ty e).size, 0)) p b → Zao E s a w g p b := by
  intro p b hp
  cases p with
  | slot t => exact hp
  | cell o i j =>
   obtain ⟨ob, x, el, sz, es, e', rv, h1, h2, h3, h4, h5, h6⟩ := hp
   rcases Zau h1 with ⟨hlt, h1'⟩ | ⟨_, h1'⟩
   ·simp only [G.add, Zai (by rw [hs.olen]; exact hlt : o < g.obs.length)] at h2
    exact ⟨ob, x, el, sz, es, e', rv, h1', h2, h3, h4, h5, h6⟩
   ·obtain rfl := Option.some.inj h1'
    simp [nth] at h3
 refine ⟨{
  len := hs.len
  env := fun t v hv => by
   obtain ⟨rv, h1, h2, h3⟩ := hs.env t v hv
   exact ⟨rv, h1, h2.keeps hs.sub hkeep (ObsLe.add g _), own2 v rv h3⟩
  olen := by simp [G.add, hs.olen]
  obj := fun o ob ho => by
   rcases Zau ho with ⟨hlt, ho'⟩ | ⟨rfl, ho'⟩
   ·obtain ⟨x, hx, hr⟩ := hs.obj o ob ho'
    obtain ⟨arr, cap, b1, b2, b3, b4, b5, b7, b6⟩ := hr.blk
    refine ⟨x, by simp only [G.add]; rw [Zai (by rw [hs.olen]; exact hlt)]; exact hx, hr.ver, hr.esz, hr.ty, hr.known, ⟨arr, cap, b1, b2, b3, b4, b5, b7, fun i el j c h1 h2 => ?_⟩, hr.sz, hr.flat, hr.base, hr.nsusp, hr.nimm⟩
    obtain ⟨rv, r1, r2, r3⟩ := b6 i el j c h1 h2
    exact ⟨rv, r1, r2.keeps hs.sub hkeep (ObsLe.add g _), own2 c rv r3⟩
   ·obtain rfl := Option.some.inj ho'
    exact ⟨(0, 0, (C.ty e).size, 0), by simp only [G.add]; rw [← hs.olen, ZaG], rfl, rfl, rfl, hk, ⟨#[], 0, fun hp => absurd hp (Nat.lt_irrefl 0), rfl, by simp, Nat.zero_le _, Nat.le_refl _, fun k v hv => by simp at hv, fun i el j c h1 => by simp [nth] at h1⟩,
     fun i el h1 => by simp [nth] at h1, fun i el j c h1 => by simp [nth] at h1, fun hp => absurd hp (Nat.lt_irrefl 0), fun hp => absurd hp (Nat.lt_irrefl 0), fun hp => absurd hp (Nat.lt_irrefl 0)⟩
  gone := fun o x hx => by
   rcases Zau hx with ⟨hlt, hx'⟩ | ⟨rfl, hx'⟩
   ·obtain ⟨ob, hob⟩ := hs.gone o x hx'
    exact ⟨ob, by rw [Zai (by rw [← hs.olen]; exact hlt)]; exact hob⟩
   ·exact ⟨_, by rw [hs.olen, ZaG]⟩
  inj := fun o o' x x' hx hx' hp hp' hb => by
   rcases Zau hx with ⟨_, k1⟩ | ⟨_, k1⟩ <;> rcases Zau hx' with ⟨_, k2⟩ | ⟨_, k2⟩
   ·exact hs.inj o o' x x' k1 k2 hp hp' hb
   ·obtain rfl := Option.some.inj k2; exact absurd hp' (Nat.lt_irrefl 0)
   ·obtain rfl := Option.some.inj k1; exact absurd hp (Nat.lt_irrefl 0)
   ·obtain rfl := Option.some.inj k1; exact absurd hp (Nat.lt_irrefl 0)
  own := fun p q b hp hq => hs.own p q b (key p b hp) (key q b hq)
  sub := hs.sub
  immlt := hs.immlt
  basele := hs.basele
  susplt := hs.susplt }, fun keep hk => {
  keeps := hkeep
  size := Nat.le_refl _
  os := rfl
  tape := rfl
  output := rfl
  base := rfl
  susp := fun _ => Iff.rfl
  low := fun _ _ => rfl
  sus := fun _ _ => ⟨rfl, fun _ h => h, fun _ h => h⟩
  klen := by simp [G.add, hs.olen]; omega
  obs := fun o ho x' hx => (ObsLe.add g _).at_ o (by rw [hs.olen]; omega) x' hx }⟩
theorem ZpY {e : TypeId} (hke : (C.ty e).known = true) (hrun : ∀ g a w, Sim C g E s a w → (execOp a.eval o).run P w = .ok (.value (.slice none 0 0)) w) :
  Zbj P C o E s (.arr s.length 0 0 0) E (newOb C s [] e) := by
 refine ⟨by simp [newOb], fun g a w keep hkp hs next Q hnext => ?_⟩
 obtain ⟨k1, k2⟩ := hs.void (E := E) hke
 unfold Oper.wp
 rw [hrun g a w hs]
 refine hnext _ _ w (k2 keep hkp) (k1.put0 o.dst (.arr _ _ _ _ _ _ (Nat.le_refl 0) (by simp [G.add, hs.olen]) fun x hx => ?_) (by simp [V.still]))
 simp only [G.add] at hx
 rw [← hs.olen, ZaG] at hx
 obtain rfl := Option.some.inj (Option.some.inj hx)
 exact ⟨Nat.le_refl _, fun _ => ⟨.inl rfl, by simp⟩⟩
theorem Sim.trunc {g : G} {a : Act} {w : World} (hs : Sim C g E s a w) {oo n : Nat} {ob : Ob} (ho : nth s oo = some (some ob)) : Sim C g E (ZaC s oo (some { ob with es := ob.es.take n })) a w := by
 have hset : ∀ o' ob', nth (ZaC s oo (some { ob with es := ob.es.take n })) o' = some (some ob') → (o' = oo ∧ ob' = { ob with es := ob.es.take n }) ∨ (o' ≠ oo ∧ nth s o' = some (some ob')) := by
  intro o' ob' h
  by_cases hoo : oo = o'
  ·subst hoo
   have := Zaw h
   exact .inl ⟨rfl, Option.some.inj this⟩
  ·rw [Zan hoo] at h
   exact .inr ⟨fun hc => hoo hc.symm, h⟩
 have key : ∀ p b, Zao E (ZaC s oo (some { ob with es := ob.es.take n })) a w g p b → Zao E s a w g p b := by
  intro p b hp
  cases p with
  | slot t => exact hp
  | cell o' i j =>
   obtain ⟨ob', x, el, sz, es, e', rv, h1, h2, h3, h4, h5, h6⟩ := hp
   rcases hset o' ob' h1 with ⟨rfl, rfl⟩ | ⟨_, h1'⟩
   ·exact ⟨ob, x, el, sz, es, e', rv, ho, h2, (Zbz h3).1, h4, h5, h6⟩
   ·exact ⟨ob', x, el, sz, es, e', rv, h1', h2, h3, h4, h5, h6⟩
 exact {
  len := hs.len
  env := hs.env
  olen := by rw [Zah]; exact hs.olen
  obj := fun o' ob' ho' => by
   rcases hset o' ob' ho' with ⟨rfl, rfl⟩ | ⟨_, ho2⟩
   ·obtain ⟨x, hx, hr⟩ := hs.obj o' ob ho
    obtain ⟨arr, cap, b1, b2, b3, b4, b5, b7, b6⟩ := hr.blk
    exact ⟨x, hx, hr.ver, hr.esz, hr.ty, hr.known, ⟨arr, cap, b1, b2, b3, b4, by simp; omega, b7, fun i el j c h1 h2 => b6 i el j c (Zbz h1).1 h2⟩, fun i el h1 => hr.sz i el (Zbz h1).1, fun i el j c h1 h2 => hr.flat i el j c (Zbz h1).1 h2, hr.base, hr.nsusp, hr.nimm⟩
   ·exact hs.obj o' ob' ho2
  gone := fun o' x hx => by
   obtain ⟨ob', hob'⟩ := hs.gone o' x hx
   by_cases hoo : oo = o'
   ·subst hoo
    exact ⟨_, ZcX ho⟩
   ·exact ⟨ob', by rw [Zan hoo]; exact hob'⟩
  inj := hs.inj
  own := fun p q b hp hq => hs.own p q b (key p b hp) (key q b hq)
  sub := hs.sub
  immlt := hs.immlt
  basele := hs.basele
  susplt := hs.susplt }
theorem Zqq (hC : Ok P C) (hth : C.thaw = true) {src e : TypeId} {x : Operand} {oo len : Nat} {ob : Ob} (hs : P.underlying src = some (.slice e)) (he : P.underlying e = some (.int .u8)) (ho : o.op = .convert src src x)
  (hx : ev E x = some (.arr oo 0 0 len)) (hob : Zcf s oo 0 = some ob) (hl0 : 0 < len) (hl : len ≤ ob.es.length) : Zbj P C o E s (.arr oo 1 0 len) E (ZaC s oo (some { ob with ver := 1 })) := by
 obtain ⟨hob1, hver0⟩ := Zbg hob
 have hver : ob.ver = 0 := by omega
 refine ⟨by rw [Zah]; exact Nat.le_refl _, fun g a w keep hkeep hsim next Q hnext => ?_⟩
 obtain ⟨xx, hxx, hr⟩ := hsim.obj oo ob hob1
 obtain ⟨arr, cap, b1, b2, b3, b4, b5, b7, b6⟩ := hr.blk
 have hel : ∃ el, nth ob.es 0 = some el := ⟨_, by rw [Zac]; exact List.getElem?_eq_getElem (by omega)⟩
 obtain ⟨el, hel⟩ := hel
 have hpos := (hC.ty ob.elem hr.known).pos
 have hpx : 0 < xx.2.2.2 := hr.real2 (by rw [hr.ty]; exact hpos) hel
 have b0 := b1 hpx
 have hfz0 : C.fz ob.ver arr.size = (0, 0) := by rw [hver]; unfold Cfg.fz; rw [hth]
 rw [hfz0] at b0
 obtain ⟨A, c, hrx, hcl, hA, hcs⟩ : ∃ A c, a.eval x = .slice A len c ∧ len ≤ c ∧ A = some ⟨xx.2.1, 0, none⟩ ∧ c * xx.2.2.1 ≤ xx.2.2.2 := by
  have x1 := (hsim.ev hx).1
  generalize a.eval x = rx at x1
  cases x1 with
  | data h => cases h
  | arr _ _ _ _ A c hc ho h =>
   obtain ⟨q1, q2⟩ := h xx hxx
   obtain ⟨q3, q4⟩ := q2 (by rw [hr.ver, hver])
   rw [Nat.zero_add] at q4
   rw [Nat.zero_mul] at q3
   exact ⟨A, c, rfl, hc, q3.resolve_left (by omega), q4⟩
 subst hA
 have hsh : w.shape? xx.2.1 = some (ob.elem, arr.size) := by simp [World.shape?, b0]
 have hrun : (execOp a.eval o).run P w = .ok (.value (.slice (some ⟨xx.2.1, 0, none⟩) len c)) (w.freeze ⟨xx.2.1, arr.size, none⟩ 1) := by
  simp [execOp, ho, hrx, convert, Zad hs, Zad he, markStringish, hsh, Result.andThen]
 generalize hw' : w.freeze ⟨xx.2.1, arr.size, none⟩ 1 = w' at hrun
 obtain ⟨F, hheap, hF⟩ : ∃ F, w'.heap = w.heap.modify xx.2.1 F ∧ F (.cells arr ob.elem (0, 0)) = .cells arr ob.elem (arr.size, arr.size + 1) := by
  subst hw'
  unfold World.freeze
  rw [if_neg (by omega)]
  exact ⟨fun ob => match ob with
   | .cells c elem (lo, hi) => .cells c elem (if lo == hi then (arr.size, arr.size + 1) else (min lo arr.size, max hi (arr.size + 1)))
   | o => o, rfl, rfl⟩
 have hlt : xx.2.1 < w.heap.size := ZaN b0
 have hoth : ∀ b, b ≠ xx.2.1 → w'.heap[b]? = w.heap[b]? := fun b hb => by
  rw [hheap, Array.getElem?_modify, if_neg (Ne.symm hb)]
 have hnew : w'.heap[xx.2.1]? = some (.cells arr ob.elem (arr.size, arr.size + 1)) := by
  rw [hheap, Array.getElem?_modify, if_pos rfl, b0, Option.map_some, hF]
 have hfz1 : C.fz (ob.ver + 1) arr.size = (arr.size, arr.size + 1) := by unfold Cfg.fz; rw [hth]
 obtain ⟨k1, k2⟩ := hsim.regrow hob1 hxx (w' := w') xx.2.1 arr cap ob.es (.inl ⟨rfl, hpx⟩) (by rw [hheap]; simp) (fun b _ hb => hoth b (hb hpx)) (by rw [hfz1]; exact hnew) b3 b4 b5 b7 hr.sz hr.flat b6
  (fun i e j sz es' e' rv b hi hj hrv hbk => ⟨ob, xx, e, sz, es', e', rv, hob1, hxx, hi, hj, Zap b0 hrv, hbk⟩) (by subst hw'; simp [World.freeze]) (by subst hw'; simp [World.freeze]) (by subst hw'; simp [World.freeze])
 have hob' : ({ es := ob.es, esz := ob.esz, elem := ob.elem, ver := ob.ver + 1 } : Ob) = { ob with ver := 1 } := by rw [hver]
 rw [hob'] at k1
 unfold Oper.wp
 rw [hrun]
 refine hnext _ _ _ (k2 keep hkeep) (k1.put0 o.dst (.arr _ _ _ _ _ _ hcl (by simp [G.again, Zah]; have := hsim.olen; have := Zat hob1; omega) fun y hy => ?_) (by simp [V.still]))
 have hy2 : y = (ob.ver + 1, xx.2.1, ob.esz, arr.size) := by
  have := Zaw (l := g.obs) hy
  exact Option.some.inj this
 subst hy2
 refine ⟨by omega, fun _ => ⟨.inr (by simp), ?_⟩⟩
 rw [Nat.zero_add]
 show c * ob.esz ≤ arr.size
 rw [← hr.esz, b2]
 exact hcs
theorem Zrl (hC : Ok P C) (hth : C.thaw = true) {Φ : Zar} (hΦ : Zab P C Φ) {ops : List Oper} {K : V → List V → S → Option R} {r : R} (h : opT C Φ ops o E s K = some r) :
  ∃ v E' s', K v E' s' = some r ∧ Zbj P C o E s v E' s' := by
 unfold opT at h
 split at h
 ·rename_i t len parts ho
  obtain ⟨hk, h2⟩ := Zaa h
  split at h2 <;> first | (cases h2; done) | skip
  rename_i e ps he hps
  obtain ⟨hke, h3⟩ := Zaa h2
  split at h3 <;> first | (cases h3; done) | skip
  rename_i es hes
  split at h3 <;> first | (cases h3; done) | skip
  rename_i hcond
  exact ⟨_, _, _, h3, Zdp hC hk he hke ho hps hcond.2 hcond.1 hes⟩
 ·rename_i src dst x ho
  cases hsd : Nat.beq src dst with
  | false => rw [hsd] at h; exact Zgj hC hΦ h
  | true =>
  rw [hsd] at h
  obtain ⟨hks, h2⟩ := Zaa h
  obtain rfl := Nat.eq_of_beq_eq_true hsd
  split at h2 <;> first | (cases h2; done) | skip
  rename_i e he
  obtain ⟨hke, h3⟩ := Zaa h2
  rw [Bool.and_eq_true] at hke
  obtain ⟨a, ha, h4⟩ := Zaf h3
  split at h4 <;> first | (cases h4; done) | skip
  rename_i oo len
  split at h4 <;> first | (cases h4; done) | skip
  rename_i ob hob
  obtain ⟨hl, h5⟩ := Zaa h4
  rw [Bool.and_eq_true, decide_eq_true_iff, decide_eq_true_iff] at hl
  exact ⟨_, _, _, h5, Zqq hC hth ((hC.ty src hks).elem e he) ((hC.ty e hke.1).kind _ (Zh1 hke.2)) ho ha hob hl.1 hl.2⟩
 ·exact Zgj hC hΦ h
theorem Zro (hC : Ok P C) {Φ : Zar} (hΦ : Zab P C Φ) {ops : List Oper} {K : V → List V → S → Option R} {r : R} (h : opX C Φ ops o E s K = some r) :
  ∃ v E' s', K v E' s' = some r ∧ Zbj P C o E s v E' s' := by
 unfold opX at h
 cases hth : C.thaw with
 | true => rw [hth] at h; exact Zrl hC hth hΦ h
 | false =>
  rw [hth] at h
  simp only at h
  split at h
  ·exact Zgj hC hΦ h
  ·split at h
   ·rename_i ho
    split at h <;> first | (cases h; done) | skip
    rename_i e he
    obtain ⟨hg, h2⟩ := Zaa h
    simp only [Bool.and_eq_true] at hg
    exact ⟨_, _, _, h2, ZpY hg.2 fun g a w hs => by simp [execOp, ho, Act.eval]⟩
   ·rename_i t ho
    split at h <;> first | (cases h; done) | skip
    rename_i e he
    obtain ⟨hg, h2⟩ := Zaa h
    simp only [Bool.and_eq_true] at hg
    exact ⟨_, _, _, h2, Zdp (ps := []) hC hg.1 he hg.2 ho rfl rfl (by simp) rfl⟩
   ·rename_i c ho
    split at h
    ·rename_i oo ver len l hcal ha
     unfold ZpN at h
     split at h <;> first | (cases h; done) | skip
     rename_i ob hob
     split at h <;> first | (cases h; done) | skip
     obtain ⟨v, E', s', h2, h3, h4⟩ := Zgj hC hΦ h
     obtain ⟨hob1, _⟩ := Zbg hob
     rw [Zah] at h3
     exact ⟨v, E', s', h2, h3, fun g a w keep hk hs next Q hn => h4 g a w keep (by rw [Zah]; exact hk) (hs.trunc hob1) next Q hn⟩
    ·exact Zgj hC hΦ h
   ·exact Zgj hC hΦ h
end
end Go.VM
