/- Appending to an object. -/
import Derived.Test.YtjbalmhcpkehnaaVmM
set_option linter.unusedSimpArgs false
set_option linter.unusedVariables false
namespace Go.VM
open Go.RowKit Go.Lib
section
variable {P : Program} {C : Cfg} {o : Oper} {E : List V} {s : S}
def G.again (g : G) (oo : Nat) (x : Nat × Nat × Nat × Nat) : G := { g with obs := ZaC g.obs oo (some x) }
theorem ZcX {α : Type} {l : List α} {n : Nat} {a b : α} (h : nth l n = some b) : nth (ZaC l n a) n = some a := by
 have := Zat h
 rw [Zac, Za2, List.getElem?_set_self this]
theorem Sim.regrow {g : G} {a : Act} {w w' : World} (hs : Sim C g E s a w) {oo : Nat} {ob : Ob} {x : Nat × Nat × Nat × Nat} (h1 : nth s oo = some (some ob)) (h2 : nth g.obs oo = some (some x))
  (blk : Nat) (arr2 : Array Value) (cap : Nat) (es2 : List V) (hblk : (blk = x.2.1 ∧ 0 < x.2.2.2) ∨ w.heap.size ≤ blk) (hsize : w.heap.size ≤ w'.heap.size) (hb : ∀ b, b < w.heap.size → (0 < x.2.2.2 → b ≠ x.2.1) → w'.heap[b]? = w.heap[b]?)
  (hnew : w'.heap[blk]? = some (.cells arr2 ob.elem (C.fz (ob.ver + 1) arr2.size))) (hcap : arr2.size = cap * ob.esz) (hm : cap ≤ maxLen) (hle : es2.length ≤ cap)
  (hone : ∀ (k : Nat) (v : Value), arr2[k]? = some v → v.oneCell' = true)
  (hsz : ∀ i e, nth es2 i = some e → e.cells.length = ob.esz) (hflat : ∀ i e j c, nth es2 i = some e → nth e.cells j = some c → c.flatCell = true)
  (hc : ∀ i e j c, nth es2 i = some e → nth e.cells j = some c → ∃ rv, arr2[i * ob.esz + j]? = some rv ∧ VR g w c rv ∧ OwnOk C g w c rv)
  (hown : ∀ i e j sz es' e' rv b, nth es2 i = some e → nth e.cells j = some (.list sz es' (.own e')) → arr2[i * ob.esz + j]? = some rv → rv.ownBlock = some b → Zao E s a w g (.cell oo i j) b)
  (hos : w'.os = w.os) (htape : w'.tape = w.tape) (hout : w'.output = w.output) :
  Sim C (g.again oo (ob.ver + 1, blk, ob.esz, arr2.size)) E (ZaC s oo (some { es := es2, esz := ob.esz, elem := ob.elem, ver := ob.ver + 1 })) a w' ∧
   ∀ keep, keep ≤ s.length → Le keep g w (g.again oo (ob.ver + 1, blk, ob.esz, arr2.size)) w' := by
 have hr := hs.at_obj h1 h2
 obtain ⟨arr, cap0, b1, b2, b3, b4, b5, b7, b6⟩ := hr.blk
 have hkeep : Keeps g w (g.again oo (ob.ver + 1, blk, ob.esz, arr2.size)) w' := ⟨fun _ _ h => h, fun _ _ h => h, fun b i hi => Za0 (hb b (hs.immlt b i hi) fun hpx hbb => by subst hbb; exact hr.nimm hpx i hi) i⟩
 have gobs : ∀ o x', nth (g.again oo (ob.ver + 1, blk, ob.esz, arr2.size)).obs o = some (some x') → (o = oo ∧ x' = (ob.ver + 1, blk, ob.esz, arr2.size)) ∨ (o ≠ oo ∧ nth g.obs o = some (some x')) := by
  intro o x' h
  by_cases ho : oo = o
  ·subst ho
   have := Zaw h
   exact .inl ⟨rfl, Option.some.inj this⟩
  ·have h' : nth (ZaC g.obs oo (some (ob.ver + 1, blk, ob.esz, arr2.size))) o = some (some x') := h
   rw [Zan ho] at h'
   exact .inr ⟨fun hc => ho hc.symm, h'⟩
 have hat : ∀ o x', nth (g.again oo (ob.ver + 1, blk, ob.esz, arr2.size)).obs o = some (some x') → ∃ x, nth g.obs o = some (some x) ∧ x.1 ≤ x'.1 ∧ (x.1 = x'.1 → x = x') := by
  intro o x' h
  rcases gobs o x' h with ⟨rfl, rfl⟩ | ⟨_, h'⟩
  ·refine ⟨x, h2, by rw [hr.ver]; simp, fun hv => ?_⟩
   rw [hr.ver] at hv
   simp at hv
  ·exact ⟨x', h', Nat.le_refl _, fun _ => rfl⟩
 have hol : ObsLe g (g.again oo (ob.ver + 1, blk, ob.esz, arr2.size)) := ⟨by simp [G.again, Zah], fun o _ x' h => hat o x' h⟩
 have vr2 : ∀ {v rv}, VR g w v rv → VR (g.again oo (ob.ver + 1, blk, ob.esz, arr2.size)) w' v rv := fun h => h.keeps hs.sub hkeep hol
 have own2 : ∀ {v rv}, OwnOk C g w v rv → OwnOk C (g.again oo (ob.ver + 1, blk, ob.esz, arr2.size)) w' v rv := by
  intro v rv h
  refine ⟨fun sz es e hv => ?_, h.agg⟩
  obtain ⟨k1, ⟨xs, k2⟩, k3, k4⟩ := h.own sz es e hv
  refine ⟨k1, ⟨xs, ZaT k2 fun b hb' => hb b (ZaL k2 hb').1 fun hpx hbb => (k3 b hb').2.2 oo x h2 hpx hbb.symm⟩, fun b hb' => ?_, k4⟩
  obtain ⟨k5, k6, k7⟩ := k3 b hb'
  refine ⟨k5, k6, fun o x' hx' hp' => ?_⟩
  rcases gobs o x' hx' with ⟨rfl, rfl⟩ | ⟨_, h'⟩
  ·rcases hblk with ⟨hblk, hpx⟩ | hblk
   ·rw [hblk]; exact k7 o x h2 hpx
   ·have := (ZaL k2 hb').1
    simp only [ne_eq]; omega
  ·exact k7 o x' h' hp'
 have hset : ∀ o' ob', nth (ZaC s oo (some ({ es := es2, esz := ob.esz, elem := ob.elem, ver := ob.ver + 1 } : Ob))) o' = some (some ob') → (o' = oo ∧ ob' = { es := es2, esz := ob.esz, elem := ob.elem, ver := ob.ver + 1 }) ∨ (o' ≠ oo ∧ nth s o' = some (some ob')) := by
  intro o' ob' h
  by_cases ho : oo = o'
  ·subst ho
   have := Zaw h
   exact .inl ⟨rfl, Option.some.inj this⟩
  ·rw [Zan ho] at h
   exact .inr ⟨fun hc => ho hc.symm, h⟩
 have nobs : nth (g.again oo (ob.ver + 1, blk, ob.esz, arr2.size)).obs oo = some (some (ob.ver + 1, blk, ob.esz, arr2.size)) := ZcX h2
 have hother : ∀ o' x', o' ≠ oo → nth g.obs o' = some (some x') → 0 < x'.2.2.2 → x'.2.1 < w.heap.size ∧ (0 < x.2.2.2 → x'.2.1 ≠ x.2.1) := by
  intro o' x' hne hx' hp'
  obtain ⟨ob', hob'⟩ := hs.gone o' x' hx'
  obtain ⟨arr', cap', c1, _⟩ := (hs.at_obj hob' hx').blk
  exact ⟨ZaN (c1 hp'), fun hpx hb => hne (hs.inj o' oo x' x hx' h2 hp' hpx hb)⟩
 have key : ∀ p b, Zao E (ZaC s oo (some { es := es2, esz := ob.esz, elem := ob.elem, ver := ob.ver + 1 })) a w' (g.again oo (ob.ver + 1, blk, ob.esz, arr2.size)) p b → Zao E s a w g p b := by
  intro p b hp
  cases p with
  | slot t => exact hp
  | cell o' i j =>
   obtain ⟨ob', x', el, sz, es', e', rv, k1, k2, k3, k4, k5, k6⟩ := hp
   rcases hset o' ob' k1 with ⟨rfl, rfl⟩ | ⟨ho, k1'⟩
   ·obtain rfl : x' = (ob.ver + 1, blk, ob.esz, arr2.size) := Option.some.inj (Option.some.inj (k2.symm.trans nobs))
    obtain ⟨rv', r1, _⟩ := hc i el j _ k3 k4
    obtain rfl := Option.some.inj ((Zap hnew r1).symm.trans k5)
    exact hown i el j sz es' e' rv' b k3 k4 r1 k6
   ·rcases gobs o' x' k2 with ⟨h, _⟩ | ⟨_, k2'⟩
    ·exact absurd h ho
    ·obtain ⟨q1, q2⟩ := hother o' x' ho k2' ((hs.at_obj k1' k2').real k3 k4)
     exact ⟨ob', x', el, sz, es', e', rv, k1', k2', k3, k4, by rw [← k5]; exact (Za0 (hb _ q1 q2) _).symm, k6⟩
 refine ⟨{
  len := hs.len
  env := fun t v hv => by
   obtain ⟨rv, r1, r2, r3⟩ := hs.env t v hv
   exact ⟨rv, r1, vr2 r2, own2 r3⟩
  olen := by simp [G.again, Zah, hs.olen]
  obj := fun o' ob' ho' => by
   rcases hset o' ob' ho' with ⟨rfl, rfl⟩ | ⟨hne, ho2⟩
   ·refine ⟨_, nobs, rfl, rfl, hr.ty, hr.known, ⟨arr2, cap, fun _ => hnew, rfl, hcap, hm, hle, hone, fun i e j c hi hj => ?_⟩, hsz, hflat, fun hp2 => ?_, fun hp2 hsp => ?_, fun hp2 i hi => ?_⟩
    ·obtain ⟨rv, r1, r2, r3⟩ := hc i e j c hi hj
     exact ⟨rv, r1, vr2 r2, own2 r3⟩
    ·rcases hblk with ⟨rfl, hpx⟩ | hblk
     ·exact hr.base hpx
     ·exact Nat.le_trans hs.basele hblk
    ·rcases hblk with ⟨rfl, hpx⟩ | hblk
     ·exact hr.nsusp hpx hsp
     ·exact absurd (hs.susplt _ hsp) (Nat.not_lt.2 hblk)
    ·rcases hblk with ⟨rfl, hpx⟩ | hblk
     ·exact hr.nimm hpx i hi
     ·exact absurd (hs.immlt _ i hi) (Nat.not_lt.2 hblk)
   ·obtain ⟨x', hx', hr'⟩ := hs.obj o' ob' ho2
    obtain ⟨arr', cap', c1, c2, c3, c4, c5, c7, c6⟩ := hr'.blk
    refine ⟨x', by show nth (ZaC g.obs oo _) o' = _; rw [Zan (fun h => hne h.symm)]; exact hx', hr'.ver, hr'.esz, hr'.ty, hr'.known, ⟨arr', cap', fun hp' => by obtain ⟨q1, q2⟩ := hother o' x' hne hx' hp'; rw [hb _ q1 q2]; exact c1 hp', c2, c3, c4, c5, c7, fun i e j c hi hj => ?_⟩, hr'.sz, hr'.flat, hr'.base, hr'.nsusp, hr'.nimm⟩
    obtain ⟨rv, r1, r2, r3⟩ := c6 i e j c hi hj
    exact ⟨rv, r1, vr2 r2, own2 r3⟩
  gone := fun o' x' hx' => by
   rcases gobs o' x' hx' with ⟨rfl, _⟩ | ⟨hne, h'⟩
   ·exact ⟨_, ZcX h1⟩
   ·obtain ⟨ob', hob'⟩ := hs.gone o' x' h'
    exact ⟨ob', by rw [Zan (fun h => hne h.symm)]; exact hob'⟩
  inj := fun o' o'' x' x'' hx' hx'' hp' hp'' hbb => by
   have bad : ∀ o' x', o' ≠ oo → nth g.obs o' = some (some x') → 0 < x'.2.2.2 → x'.2.1 = blk → False := by
    intro o' x' hne hx' hp hq
    obtain ⟨q1, q2⟩ := hother o' x' hne hx' hp
    rcases hblk with ⟨hblk, hpx⟩ | hblk
    ·rw [hblk] at hq; exact q2 hpx hq
    ·omega
   rcases gobs o' x' hx' with ⟨rfl, rfl⟩ | ⟨hne, k1⟩ <;> rcases gobs o'' x'' hx'' with ⟨rfl, rfl⟩ | ⟨hne', k2⟩
   ·rfl
   ·exact (bad o'' x'' hne' k2 hp'' hbb.symm).elim
   ·exact (bad o' x' hne k1 hp' hbb).elim
   ·exact hs.inj o' o'' x' x'' k1 k2 hp' hp'' hbb
  own := fun p q b hp hq => hs.own p q b (key p b hp) (key q b hq)
  sub := hs.sub
  immlt := fun b i hi => Nat.lt_of_lt_of_le (hs.immlt b i hi) hsize
  basele := Nat.le_trans hs.basele hsize
  susplt := fun b hb => Nat.lt_of_lt_of_le (hs.susplt b hb) hsize }, fun keep hk => {
  keeps := hkeep
  size := hsize
  os := hos
  tape := htape
  output := hout
  base := rfl
  susp := fun _ => Iff.rfl
  low := fun b hbl => hb b (Nat.lt_of_lt_of_le hbl hs.basele) fun hpx hbb => by subst hbb; have := hr.base hpx; omega
  sus := fun b hbs => ⟨hb b (hs.susplt b hbs) fun hpx hbb => by subst hbb; exact hr.nsusp hpx hbs, fun i hi => hi, fun i hi => hi⟩
  klen := by simp [G.again, Zah, hs.olen]; exact hk
  obs := fun o _ x' h => hat o x' h }⟩
theorem ZiG (hC : Ok P C) (hth : C.thaw = false) {t u e : TypeId} {x y : Operand} {c : Call} {oo ver len : Nat} {ob : Ob} {ys : List V} {vy : V} (ho : o.op = .call c) (hcal : c.callee = .builtin .append) (hargs : c.args.toList = [x, y])
  (hty : c.argTypes.toList = [t, u]) (hk : (C.ty t).known = true) (he : (C.ty t).elem = some e) (hke : (C.ty e).known = true) (hku : (C.ty u).known = true) (hu : (C.ty u).str = true ∨ (C.ty u).elem.isSome = true)
  (hx : evt C t E x = some (.arr oo ver 0 len)) (hy : evt C u E y = some vy) (hob : Zcf s oo ver = some ob) (hel : ob.elem = e) (hlen : len = ob.es.length)
  (hsrc : ∀ g a w ry, Sim C g E s a w → VR g w vy ry → ∃ l news, Src P g w (C.ty e).size ys ry l news)
  (hbytes : (len + ys.length) * (C.ty e).bytes ≤ 140737488355328) (h63 : len + ys.length ≤ maxLen) (hm0 : 0 < ys.length) :
  Zbj P C o E s (.arr oo (ver + 1) 0 (len + ys.length)) (Zcd E x) (ZaC s oo (some { es := ob.es ++ ys.map V.noOwn, esz := ob.esz, elem := ob.elem, ver := ver + 1 })) := by
 have hut := (hC.ty t hk).elem e he
 have hud : ∃ d, P.underlying u = some d ∧ ∀ k, d ≠ .int k := by
  rcases hu with hu | hu
  ·exact ⟨_, (hC.ty u hku).str hu, by simp⟩
  ·cases hue : (C.ty u).elem with
   | none => rw [hue] at hu; cases hu
   | some e' => exact ⟨_, (hC.ty u hku).elem e' hue, by simp⟩
 have hte := hC.ty e hke
 obtain ⟨i, z', hi, _⟩ := hte.info
 obtain ⟨z, hz, zo, hsz, hby⟩ := hte.zero hi
 have hpos := hte.pos
 obtain ⟨hob1, hver⟩ := Zbg hob
 refine ⟨by rw [Zah]; exact Nat.le_refl _, fun g a w keep hkp hs0 next Q hnext => ?_⟩
 obtain ⟨x1, x2, x3⟩ := hs0.evt hx
 obtain ⟨y1, _, _⟩ := hs0.evt hy
 obtain ⟨l, news, hsr⟩ := hsrc g a w _ hs0 y1
 have hs := hs0.strip x
 obtain ⟨xx, hxx, hr⟩ := hs.obj oo ob hob1
 obtain ⟨arr, cap0, b1, b2, b3, b4, b5, b7, b6⟩ := hr.blk
 have hfz : ∀ v n, C.fz v n = (0, 0) := fun v n => by simp [Cfg.fz, hth]
 have hesz : ob.esz = (C.ty e).size := by rw [hr.ty, hel]
 have hargs' : c.args = #[x, y] := by apply Array.ext'; simpa using hargs
 have htys' : c.argTypes = #[t, u] := by apply Array.ext'; simpa using hty
 obtain ⟨A, cc, hrx, hclen, hca, hcs⟩ : ∃ A cc, a.eval x = .slice A len cc ∧ len ≤ cc ∧ (cc = 0 ∨ A = some ⟨xx.2.1, 0, none⟩) ∧ cc * (C.ty e).size ≤ arr.size := by
  generalize a.eval x = rx at x1
  cases x1 with
  | data h => cases h
  | arr _ _ _ _ A c hc ho h =>
   obtain ⟨q1, q2⟩ := h xx hxx
   obtain ⟨q3, q4⟩ := q2 (by rw [hver, hr.ver])
   rw [hr.esz, hesz, Nat.zero_add, ← b2] at q4
   rw [Nat.zero_mul] at q3
   exact ⟨A, c, rfl, hc, q3, q4⟩
 have hlenfit : len * (C.ty e).size ≤ arr.size := by
  rw [b3, hesz, hlen]; exact Nat.mul_le_mul_right _ b5
 have holdlen : (arr.toList.take (len * (C.ty e).size)).length = len * (C.ty e).size := by simp; omega
 obtain ⟨v', w', hrun, happ⟩ := Zdj (g := g) (ty := o.type) hut hud hi hz hsz zo.size zo.one hpos hsr (v := .slice A len cc) (n := len) (olds := arr.toList.take (len * (C.ty e).size))
  (by
   rcases hca with rfl | rfl
   ·obtain rfl : len = 0 := by omega
    exact .inl ⟨⟨A, rfl⟩, rfl, by simp⟩
   ·by_cases hcc : cc = 0
    ·subst hcc
     obtain rfl : len = 0 := by omega
     exact .inl ⟨⟨_, rfl⟩, rfl, by simp⟩
    ·exact .inr ⟨xx.2.1, cc, arr, rfl, by rw [b1 (by rw [← b2]; exact Nat.lt_of_lt_of_le (Nat.mul_pos (by omega) hpos) hcs), hfz, hel], hclen, hcs, rfl⟩) (fun v hv => by
   obtain ⟨k, hkv⟩ := List.getElem?_of_mem (List.mem_of_mem_take hv)
   exact b7 k v (by rw [← Array.getElem?_toList]; exact hkv)) (by rw [hby]; exact hbytes) h63
 have hexec : (execOp a.eval o).run P w = .ok (.value v') w' := by
  unfold execOp
  simp only [ho, resolve, hcal, hargs', htys', invoke, builtin, Sem.run_bind, Sem.run_pure, Result.andThen_ok, List.map_toArray, List.map_cons, List.map_nil, hrx, hrun]
 unfold Oper.wp
 rw [hexec]
 have hes2 : ∀ i el, nth (ob.es ++ ys.map V.noOwn) i = some el → (i < len ∧ nth ob.es i = some el) ∨ (len ≤ i ∧ ∃ e0, nth ys (i - len) = some e0 ∧ e0.noOwn = el) := by
  intro i el hi
  by_cases hlt : i < ob.es.length
  ·rw [Zai hlt] at hi
   exact .inl ⟨by omega, hi⟩
  ·rw [ZaF (by omega)] at hi
   obtain ⟨e0, he0, hq⟩ := Zag hi
   exact .inr ⟨by omega, e0, by rw [hlen]; exact he0, hq⟩
 have hsize2 : ∀ i el, nth (ob.es ++ ys.map V.noOwn) i = some el → el.cells.length = ob.esz := by
  intro i el hi
  rcases hes2 i el hi with ⟨_, h⟩ | ⟨_, e0, h, rfl⟩
  ·exact hr.sz i el h
  ·rw [ZcG, List.length_map, hsr.esz _ e0 h, hesz]
 have hcell2 : ∀ i el j c, nth (ob.es ++ ys.map V.noOwn) i = some el → nth el.cells j = some c →
   (i < len ∧ nth ob.es i = some el ∧ i * ob.esz + j < len * (C.ty e).size) ∨
   ((∀ sz es' e', c ≠ .list sz es' (.own e')) ∧ c.flatCell = true ∧ len * (C.ty e).size ≤ i * ob.esz + j ∧ ∃ rv, nth news (i * ob.esz + j - len * (C.ty e).size) = some rv ∧ VR g w c rv ∧ OwnOk C g w c rv) := by
  intro i el j c hi hj
  have hjl : j < (C.ty e).size := by rw [← hesz, ← hsize2 i el hi]; exact Zat hj
  rcases hes2 i el hi with ⟨h1, h2⟩ | ⟨h1, e0, h2, rfl⟩
  ·refine .inl ⟨h1, h2, ?_⟩
   rw [hesz]
   have : (i + 1) * (C.ty e).size ≤ len * (C.ty e).size := Nat.mul_le_mul_right _ h1
   rw [Nat.add_mul] at this; omega
  ·rw [ZcG] at hj
   obtain ⟨c0, hc0, rfl⟩ := Zag hj
   obtain ⟨k1, rv, k2, k3, _⟩ := hsr.cell _ e0 j c0 h2 hc0
   have hno := Zb5 c0
   have hle2 := Nat.mul_le_mul_right (C.ty e).size h1
   refine .inr ⟨hno, by cases c0 <;> first | rfl | (cases k1; done), by rw [hesz]; omega, rv, ?_, k3.noOwnCell, OwnOk.of_not ⟨hno, fun cs hcs => ?_⟩⟩
   ·rw [← k2]
    congr 1
    rw [hesz, Nat.sub_mul]
    omega
   ·cases c0 <;> first | (cases hcs; done) | (cases k1; done)
 have both : ∀ (blk cap' : Nat) (arr' : Array Value), ((blk = xx.2.1 ∧ 0 < xx.2.2.2) ∨ w.heap.size ≤ blk) → w.heap.size ≤ w'.heap.size → (∀ b, b < w.heap.size → (0 < xx.2.2.2 → b ≠ xx.2.1) → w'.heap[b]? = w.heap[b]?) →
   w'.heap[blk]? = some (.cells arr' ob.elem (0, 0)) → arr'.size = cap' * ob.esz → cap' ≤ maxLen → len + ys.length ≤ cap' → (∀ (k : Nat) (v : Value), arr'[k]? = some v → v.oneCell' = true) →
   (∀ k, k < len * (C.ty e).size → arr'[k]? = arr[k]?) → (∀ k rv, nth news k = some rv → arr'[len * (C.ty e).size + k]? = some rv) →
   (∃ c', v' = .slice (some ⟨blk, 0, none⟩) (len + ys.length) c' ∧ len + ys.length ≤ c' ∧ c' * ob.esz ≤ arr'.size) → next (a.put o.dst v') w' := by
  intro blk cap' arr' hblk hsize hb hnew hcap hm hle hone hold hnw hv'
  obtain ⟨c', rfl, hc', hc2⟩ := hv'
  have hc : ∀ i e_1 j c, nth (ob.es ++ ys.map V.noOwn) i = some e_1 → nth e_1.cells j = some c → c.flatCell = true ∧ (∃ rv, arr'[i * ob.esz + j]? = some rv ∧ VR g w c rv ∧ OwnOk C g w c rv) ∧
    (∀ sz es' e', c = .list sz es' (.own e') → nth ob.es i = some e_1 ∧ i * ob.esz + j < len * (C.ty e).size) := by
   intro i el j c hi hj
   rcases hcell2 i el j c hi hj with ⟨h1, h2, h3⟩ | ⟨h1, h2, h3, rv, h4, h5, h6⟩
   ·obtain ⟨rv, r1, r2⟩ := b6 i el j c h2 hj
    exact ⟨hr.flat i el j c h2 hj, ⟨rv, by rw [hold _ h3]; exact r1, r2⟩, fun _ _ _ _ => ⟨h2, h3⟩⟩
   ·refine ⟨h2, ⟨rv, ?_, h5, h6⟩, fun sz es' e' hq => absurd hq (h1 sz es' e')⟩
    rw [← hnw _ rv h4]
    congr 1
    omega
  obtain ⟨k1, k2⟩ := hs.regrow hob1 hxx blk arr' cap' (ob.es ++ ys.map V.noOwn) hblk hsize hb (by rw [hfz]; exact hnew) hcap hm (by simp; omega) hone hsize2 (fun i el j c hi hj => (hc i el j c hi hj).1) (fun i el j c hi hj => (hc i el j c hi hj).2.1)
   (fun i el j sz es' e' rv b hi hj hrv hbk => by
    obtain ⟨_, _, h3⟩ := hc i el j _ hi hj
    obtain ⟨h4, h5⟩ := h3 sz es' e' rfl
    rw [hold _ h5] at hrv
    exact ⟨ob, xx, el, sz, es', e', rv, hob1, hxx, h4, hj, Zap (b1 (hr.real h4 hj)) hrv, hbk⟩) happ.os happ.tape happ.output
  subst hver
  refine hnext _ _ _ (k2 keep hkp) ?_
  refine k1.put0 o.dst (.arr _ _ _ _ _ _ hc' (by simp [G.again, Zah]; exact Zat hxx) fun x' hx' => ?_) (by simp [V.still])
  have hx'' : nth (ZaC g.obs oo (some (ob.ver + 1, blk, ob.esz, arr'.size))) oo = some (some x') := hx'
  have := Zaw hx''
  obtain rfl := Option.some.inj this
  exact ⟨Nat.le_refl _, fun _ => ⟨.inr (by simp), by rw [Nat.zero_add]; exact hc2⟩⟩
 have hnl := hsr.nlen
 rcases happ.form with ⟨_, _, _, hm1, _⟩ | ⟨gb, cap, cur, hv, hg, hroom, hcs', htake, hv', hw'⟩ | ⟨cap', arr', hv', hcap, hmax, hsz', hheap, htake, hone'⟩
 ·omega
 ·injection hv with hv1 _ hv3
  have hcc0 : cc ≠ 0 := by omega
  rw [hca.resolve_left hcc0] at hv1
  injection hv1 with hv1
  injection hv1 with hv1
  subst hv1 hv3
  have hpx : 0 < xx.2.2.2 := by rw [← b2]; exact Nat.lt_of_lt_of_le (Nat.mul_pos (by omega) hpos) hcs
  have hcur : cur = arr := by
   have := hg.symm.trans (b1 hpx)
   injection this with this
   injection this
  subst hcur
  have hfit : len * (C.ty e).size + news.length ≤ cur.size := by
   rw [hnl, ← Nat.add_mul]
   exact Nat.le_trans (Nat.mul_le_mul_right _ hroom) hcs'
  refine both xx.2.1 cap0 _ (.inl ⟨rfl, hpx⟩) (by rw [hw', setRow_size]; exact Nat.le_refl _) (fun b _ hb => by rw [hw']; exact setRow_other w _ b _ (hb hpx)) (by rw [hw', hel]; exact setRow_heap w _ cur _ _ _ hg) (by rw [Zch hfit]; exact b3) b4 ?_ ?_ ?_ ?_
   ⟨cc, hv', hroom, by rw [Zch hfit, hesz]; exact hcs'⟩
  ·have : cc * (C.ty e).size ≤ cap0 * (C.ty e).size := by rw [← hesz, ← b3, hesz]; exact hcs'
   exact Nat.le_trans hroom (Nat.le_of_mul_le_mul_right this hpos)
  ·intro k v hk
   by_cases hk2 : len * (C.ty e).size ≤ k ∧ k < len * (C.ty e).size + news.length
   ·rw [ZbH hfit hk2.1 hk2.2, Zac] at hk
    exact hsr.one v (List.mem_of_getElem? hk)
   ·rw [Zbf hfit (by omega)] at hk
    exact b7 k v hk
  ·intro k hk
   exact Zbf hfit (.inl hk)
  ·intro k rv hk
   have := Zat hk
   rw [ZbH hfit (by omega) (by omega)]
   rw [← hk]
   congr 1
   omega
 ·have hlen2 : ∀ k, k < (len + ys.length) * (C.ty e).size → arr'[k]? = nth (arr.toList.take (len * (C.ty e).size) ++ news) k := by
   intro k hk
   rw [← htake, Zac, List.getElem?_take, if_pos hk, Array.getElem?_toList]
  have hadd : (len + ys.length) * (C.ty e).size = len * (C.ty e).size + news.length := by rw [Nat.add_mul, hnl]
  refine both w.heap.size cap' arr' (.inr (Nat.le_refl _)) (by rw [hheap]; simp) (fun b hb _ => by rw [hheap]; exact Zcu w _ hb) (by rw [hheap, hel]; exact Zcz w _) (by rw [hesz]; exact hsz') hmax hcap hone' ?_ ?_
   ⟨cap', hv', hcap, by rw [hesz, hsz']; exact Nat.le_refl _⟩
  ·intro k hk
   rw [hlen2 k (by omega), Zai (by rw [holdlen]; exact hk), Zac, List.getElem?_take, if_pos hk, Array.getElem?_toList]
  ·intro k rv hk
   have := Zat hk
   rw [hlen2 _ (by omega), ZaF (by rw [holdlen]; omega), holdlen, ← hk]
   congr 1
   omega
end
end Go.VM
