/- Regions whose operations may be done in any order. -/
import Derived.Test.YtjbalmhcpkehnaaVmQ
import Derived.Control
import Derived.Scope
set_option linter.unusedSimpArgs false
set_option linter.unusedVariables false
namespace Go.VM
open Go.RowKit Go.Lib
section
variable {P : Program} {C : Cfg} {o : Oper} {E : List V} {s : S} {R : Type}
def Zbp (ops : List Oper) (o : Oper) : Option Tmp :=
 match o.guard with
 | none => none
 | some (j, _) => (nth ops j).bind (·.dst)
theorem Zdx {ops : List Oper} {E : List V} {o : Oper} {K : Bool → List V → Option R} {r : R} (h : Zfi ops E o K = some r) : ∃ b, K b E = some r ∧
  ∀ (g : G) (a : Act) (w : World) (F : List V), Sim C g F s a w → (∀ d, Zbp ops o = some d → nth F d = nth E d) → Region.wanted o (yielded ops.toArray a.tmps) = b := by
 unfold Zfi at h
 unfold Zbp Region.wanted
 cases hg : o.guard with
 | none =>
  rw [hg] at h
  exact ⟨true, h, fun _ _ _ _ _ _ => rfl⟩
 | some jw =>
  obtain ⟨j, want⟩ := jw
  rw [hg] at h
  simp only at h ⊢
  simp only [yielded]
  have e1 : ops.toArray[j]? = nth ops j := by rw [Zac]; simp
  rw [e1]
  cases hd : (nth ops j).bind (·.dst) with
  | none =>
   rw [hd] at h
   simp only at h
   exact ⟨false, h, fun _ _ _ _ _ _ => by simp⟩
  | some d =>
   rw [hd] at h
   simp only at h
   simp only [Option.bind_some]
   cases hv : nth E d with
   | none =>
    rw [hv] at h
    simp only at h
    refine ⟨false, h, fun g a w F hs hF => ?_⟩
    have hFd := hF d rfl
    rw [hv] at hFd
    have : a.tmps[d]? = none := by
     apply Array.getElem?_eq_none
     rw [← hs.len]
     apply Nat.le_of_not_lt
     intro hlt
     rw [Zac, List.getElem?_eq_getElem hlt] at hFd
     cases hFd
    rw [this]
    simp
   | some v =>
    rw [hv] at h
    by_cases hb : ∃ bb, v = .bool bb
    ·obtain ⟨bb, rfl⟩ := hb
     cases bb with
     | true =>
      simp only at h
      rw [Zep hv] at h
      refine ⟨want, h, fun g a w F hs hF => ?_⟩
      obtain ⟨rv, h1, h2, _⟩ := hs.env d _ ((hF d rfl).trans hv)
      rw [h1, h2.bool_inv]
      cases want <;> rfl
     | false =>
      simp only at h
      rw [Zep hv] at h
      refine ⟨!want, h, fun g a w F hs hF => ?_⟩
      obtain ⟨rv, h1, h2, _⟩ := hs.env d _ ((hF d rfl).trans hv)
      rw [h1, h2.bool_inv]
      cases want <;> rfl
    ·have hnd : v ≠ .dead := by rintro rfl; cases h
     have h' : K false E = some r := by
      cases v <;> first | exact absurd ⟨_, rfl⟩ hb | exact absurd rfl hnd | exact h
     refine ⟨false, h', fun g a w F hs hF => ?_⟩
     obtain ⟨rv, h1, h2, _⟩ := hs.env d _ ((hF d rfl).trans hv)
     rw [h1]
     have hrv : ∀ bb, rv ≠ .bool bb := by
      rintro bb rfl
      rcases h2.not_bool with h3 | h3
      ·exact hb ⟨bb, h3⟩
      ·exact hnd h3
     cases rv <;> first | exact absurd rfl (hrv _) | (cases want <;> rfl)
theorem ZbP (a : Act) (d : Option Tmp) (v : Value) : (a.put d v).defers = a.defers := by cases d <;> rfl
theorem Zmy (hC : Ok P C) {ops : List Oper} {K : V → List V → S → Option R} {r : R} (hcalm : Za3 C ops o = true) (h : ZfF C ops o E s K = some r) : ∃ v E' s', K v E' s' = some r ∧ Zbj P C o E s v E s := by
 unfold ZfF at h
 split at h
 ·-- move
  rename_i x ho
  obtain ⟨v, hv, h2⟩ := Zaf h
  have hf : Znn ops o.dst = false := by simpa [Za3, ho] using hcalm
  rw [hf] at h2
  exact ⟨_, _, _, h2, Znx ho hv⟩
 ·rename_i x ho
  simp [Za3, ho] at hcalm
 ·-- pick
  rename_i c x y ho
  obtain ⟨cv, hc, h2⟩ := Zaf h
  obtain ⟨v, h4, h5⟩ := ZnC (P := P) (C := C) (s := s) (K := fun v => K v E s) ho hc h2
  exact ⟨_, _, _, h4, h5⟩
 ·-- load
  rename_i t x ho
  obtain ⟨hk, h2⟩ := Zaa h
  obtain ⟨p, hp, h3⟩ := Zaf h2
  have hf : Znn ops o.dst = false := by simpa [Za3, ho] using hcalm
  rw [hf] at h3
  obtain ⟨v, h4, h5⟩ := Znh (E := E) hC hk ho hp h3
  exact ⟨_, _, _, h4, h5⟩
 ·-- store
  rename_i t x y ho
  simp [Za3, ho] at hcalm
 ·-- fieldAddr
  rename_i t x f ho
  obtain ⟨hk, h2⟩ := Zaa h
  obtain ⟨p, hp, h3⟩ := Zaf h2
  obtain ⟨v, hv, h4⟩ := Zaf h3
  exact ⟨_, _, _, h4, Zd8 hC hk ho hp hv⟩
 ·-- indexAddr
  rename_i t x i ho
  obtain ⟨hk, h2⟩ := Zaa h
  obtain ⟨p, hp, h3⟩ := Zaf h2
  obtain ⟨v, hv, h4⟩ := Zaf h3
  obtain ⟨v', h5, h6⟩ := ZdU hC hk ho hp hv h4
  exact ⟨_, _, _, h5, h6⟩
 ·-- index
  rename_i t x i ho
  obtain ⟨hk, h2⟩ := Zaa h
  have hk' : (C.ty t).known = true ∧ (C.ty t).str = true := by simpa using hk
  obtain ⟨p, hp, h3⟩ := Zaf h2
  obtain ⟨v, hv, h4⟩ := Zaf h3
  obtain ⟨v', h5, h6⟩ := ZhV hC hk'.1 hk'.2 ho hp hv h4
  exact ⟨_, _, _, h5, h6⟩
 ·-- slice
  rename_i t x lo hi mx ho
  split at h <;> first | (cases h; done) | skip
  obtain ⟨hk, h2⟩ := Zaa h
  obtain ⟨p, hp, h3⟩ := Zaf h2
  split at h3 <;> first | (cases h3; done) | skip
  rename_i l hh hl' hh'
  split at h3
  ·rename_i e he
   obtain ⟨hke, h4⟩ := Zaa h3
   obtain ⟨v, hv, h5⟩ := Zia h4
   exact ⟨_, _, _, h5, Zm5 hC hk he hke ho hp hl' hh' hv⟩
  ·obtain ⟨hst, h4⟩ := Zaa h3
   obtain ⟨v, hv, h5⟩ := ZeG h4
   exact ⟨_, _, _, h5, ZiL hC hk hst ho hp hl' hh' hv⟩
 ·-- binOp
  rename_i op t x y yt ho
  obtain ⟨a, ha, h2⟩ := Zaf h
  obtain ⟨b, hb, h3⟩ := Zaf h2
  obtain ⟨v, hv, h4⟩ := ZhS h3
  exact ⟨_, _, _, h4, Zna hC ho ha hb hv⟩
 ·rename_i op t x ho
  obtain ⟨a, ha, h2⟩ := Zaf h
  obtain ⟨v, hv, h4⟩ := Zaf h2
  exact ⟨_, _, _, h4, ZpH ho ha hv⟩
 ·-- convert
  rename_i src dst x ho
  obtain ⟨hk, h2⟩ := Zaa h
  have hk' : (C.ty src).known = true ∧ (C.ty dst).known = true := by simpa using hk
  obtain ⟨a, ha, h3⟩ := Zaf h2
  obtain ⟨v, h4, h5⟩ := Zlk hC hk'.1 hk'.2 ho ha h3
  exact ⟨_, _, _, h4, h5⟩
 ·-- nilCheck
  rename_i x ho
  obtain ⟨a, ha, h2⟩ := Zaf h
  split at h2 <;> first | (cases h2; done) | skip
  ·exact ⟨_, _, _, h2, ZbJ ho ha (.inl ⟨_, _, _, _, rfl⟩)⟩
  ·exact ⟨_, _, _, h2, ZbJ ho ha (.inr (.inl ⟨_, rfl⟩))⟩
  ·exact ⟨_, _, _, h2, ZbJ ho ha (.inr (.inr ⟨_, _, rfl⟩))⟩
 ·-- field
  rename_i t x i ho
  obtain ⟨hg, h2⟩ := Zaa h
  obtain ⟨v, hv, h3⟩ := Zaf h2
  obtain ⟨cs, rfl, h4⟩ := Zca h3
  split at h4 <;> first | (cases h4; done) | skip
  rename_i ft off hft hoff
  obtain ⟨hg2, h5⟩ := Zaa h4
  obtain ⟨c, hc, h6⟩ := Zaf h5
  simp only [Bool.and_eq_true, Bool.not_eq_true'] at hg hg2
  exact ⟨_, _, _, h6, Zkb hC hg.1 hg2.1 hg2.2 ho hv hft hoff hc⟩
 ·-- extract
  rename_i x i ho
  obtain ⟨a, ha, h2⟩ := Zaf h
  split at h2 <;> first | (cases h2; done) | skip
  obtain ⟨v, hv, h3⟩ := Zaf h2
  exact ⟨_, _, _, h3, Zf4 ho ha hv⟩
 ·-- makeFunc
  rename_i fn first caps ho
  simp [Za3, ho] at hcalm
 ·-- box
  rename_i t x ho
  simp [Za3, ho] at hcalm
 ·-- alloc
  rename_i t ho
  simp [Za3, ho] at hcalm
 ·-- build
  rename_i t parts ho
  obtain ⟨hk, h2⟩ := Zaa h
  split at h2 <;> first | (cases h2; done) | skip
  rename_i ps hps
  obtain ⟨hg, h3⟩ := Zaa h2
  have hg' : (C.ty t).agg = true ∧ (ps.all fun p => p.2.flat) = true := by
   rw [Bool.and_eq_true] at hg; exact hg
  split at h3 <;> first | (cases h3; done) | skip
  rename_i cs hcs
  exact ⟨_, _, _, h3, Zkd hC hk hg'.1 ho hps hg'.2 hcs⟩
 ·-- buildSlice
  rename_i t len parts ho
  simp [Za3, ho] at hcalm
 ·-- makeSlice
  rename_i t x y ho
  simp [Za3, ho] at hcalm
 ·cases h
theorem ZoT (hC : Ok P C) {Φ : Zar} (hΦ : Zab P C Φ) {ops : List Oper} {K : V → List V → S → Option R} {r : R} (hcalm : Za3 C ops o = true) (h : opV C Φ ops o E s K = some r) :
  ∃ v E' s', K v E' s' = some r ∧ Zbj P C o E s v E s := by
 unfold opV at h
 split at h
 ·rename_i c ho
  split at h <;> first | (cases h; done) | skip
  rename_i args ha
  split at h
  ·rename_i b hcal
   obtain ⟨v, s', h1, hs', h2, _⟩ := ZdB (P := P) (K := fun v s' => K v (ZcL b E c.args.toList) s') hC ho hcal ha h
   have hb : b = .len ∨ b = .min ∨ b = .max := by
    cases b <;> simp [Za3, ho, hcal] at hcalm <;> simp
   have hstrip : ZcL b E c.args.toList = E := by
    rcases hb with rfl | rfl | rfl <;> (unfold ZcL; split <;> first | rfl | (rename_i h _; cases h) | rfl)
   have hs2 : s' = s := by
    rcases hs' with h | h | h
    ·rw [h] at hb; simp at hb
    ·rw [h] at hb; simp at hb
    ·exact h
   subst hs2
   rw [hstrip] at h2
   exact ⟨v, _, _, h1, h2⟩
  ·rename_i x hcal
   obtain ⟨fv, hf, h2⟩ := Zaf h
   split at h2 <;> first | (cases h2; done) | skip
   rename_i f caps
   have hm : C.mode f = .pure := by
    cases x with
    | func g =>
     simp only [ev] at hf
     have := Option.some.inj hf
     injection this with h3 h4
     subst h3
     simp only [Za3, ho, hcal] at hcalm
     cases hmode : C.mode g with
     | pure => rfl
     | shared => rw [hmode] at hcalm; cases hcalm
     | own => rw [hmode] at hcalm; cases hcalm
    | _ => simp [Za3, ho, hcal] at hcalm
   unfold ZoP at h2
   rw [hm] at h2
   simp only at h2
   obtain ⟨as, hfr, h2⟩ := Zcg (f := Zbo true s 12) (g := freeze true s 12) (fun a K r h => ZbR h) h2
   obtain ⟨v, h3, h4⟩ := ZfH hΦ (K := fun v s' => K v E s') ho hcal hf (Zbn.argsN ha) hm hfr h2
   exact ⟨v, E, s, h3, h4⟩
  ·cases h
 ·exact Zmy hC hcalm h
theorem ZfE (v : V) : v.noOwnCell.noOwnCell = v.noOwnCell := by
 cases v <;> first | rfl | skip
 rename_i sz es f
 cases f <;> rfl
theorem ZiU (v : V) : v.noOwn.noOwn = v.noOwn := by
 cases v with
 | list sz es f => cases f <;> rfl
 | agg cs => simp [V.noOwn, ZfE]
 | _ => rfl
theorem Zng (hC : Ok P C) {Φ : Zar} (hΦ : Zab P C Φ) {ops : List Oper} {K : V → List V → S → Option R} {r : R} (hcalm : Zbw C ops o = true) (h : opV C Φ ops o E s K = some r) :
  ∃ v E' s' v', K v E' s' = some r ∧ v'.noOwn = v.noOwn ∧ Zbj P C o E s v' E s := by
 by_cases ha : ∃ x, o.op = .assign x
 ·obtain ⟨x, ho⟩ := ha
  unfold opV at h
  rw [ho] at h
  simp only at h
  unfold ZfF at h
  rw [ho] at h
  simp only at h
  obtain ⟨v, hv, h2⟩ := Zaf h
  exact ⟨v, _, _, v.noOwn, h2, ZiU v, Zbj.calm (Zav v) fun g a w hs => ⟨_, by simp [execOp, ho], (hs.evt hv).1.noOwn⟩⟩
 ·have h0 : Za3 C ops o = true := by
   unfold Zbw at hcalm
   split at hcalm
   ·rename_i x ho; exact absurd ⟨x, ho⟩ ha
   ·exact hcalm
  obtain ⟨v, E', s', h1, h2⟩ := ZoT hC hΦ h0 h
  exact ⟨v, E', s', v, h1, rfl, h2⟩
theorem ZdW (ts : List Nat) : ∀ (E : List V) (k : Nat), (Zdv ts k E).length = E.length
 | [], _ => rfl
 | v :: l, k => by simp [Zdv, ZdW ts l (k + 1)]
theorem ZeP (ts : List Nat) : ∀ (E : List V) (k t : Nat) (v : V), nth (Zdv ts k E) t = some v → v = .dead ∨ (k + t ∈ ts ∧ ∃ u, nth E t = some u ∧ v = u.noOwn)
 | [], _, t, v, h => by cases t <;> simp [Zdv, nth] at h
 | u :: l, k, t, v, h => by
  cases t with
  | zero =>
   simp only [Zdv, nth] at h
   split at h
   ·rename_i hm
    obtain ⟨x, hx, hb⟩ := List.any_eq_true.1 hm
    have := Nat.eq_of_beq_eq_true hb
    exact .inr ⟨by rw [Nat.add_zero, this]; exact hx, u, rfl, (Option.some.inj h).symm⟩
   ·exact .inl (Option.some.inj h).symm
  | succ t =>
   rcases ZeP ts l (k + 1) t v h with h1 | ⟨h1, h2⟩
   ·exact .inl h1
   ·exact .inr ⟨by rw [show k + (t + 1) = k + 1 + t by omega]; exact h1, h2⟩
theorem Sim.mask {g : G} {a : Act} {w : World} (hs : Sim C g E s a w) {M : List V} (hl : M.length = E.length) (hM : ∀ t v, nth M t = some v → v = .dead ∨ ∃ u, nth E t = some u ∧ v = u.noOwn) :
  Sim C (g.away E s a w) M s a w := by
 have h0 := hs.leave
 have hst : ∀ t v, nth M t = some v → v.still := fun t v hv => by
  rcases hM t v hv with rfl | ⟨u, _, rfl⟩
  ·simp [V.still]
  ·exact Zav u
 exact {
  len := by rw [hl]; exact hs.len
  env := fun t v hv => by
   rcases hM t v hv with rfl | ⟨u, hu, rfl⟩
   ·have hlt : t < E.length := by rw [← hl]; exact Zat hv
    obtain ⟨rv, h1, _, _⟩ := hs.env t E[t] (by rw [Zac, List.getElem?_eq_getElem hlt])
    exact ⟨rv, h1, .dead rv, OwnOk.of_not (by simp [V.still])⟩
   ·obtain ⟨rv, h1, h2, _⟩ := hs.env t u hu
    exact ⟨rv, h1, h2.noOwn.same hs.sub rfl rfl rfl, OwnOk.of_not (Zav u)⟩
  olen := h0.olen
  obj := h0.obj
  gone := h0.gone
  inj := h0.inj
  own := fun p q b hp hq => by
   have ns : ∀ t, ¬ Zao M s a w (g.away E s a w) (.slot t) b := by
    rintro t ⟨sz, es, e, rv, h1, _⟩
    exact (hst t _ h1).1 sz es e rfl
   cases p with
   | slot t => exact absurd hp (ns t)
   | cell o i j => cases q with
    | slot t => exact absurd hq (ns t)
    | cell o' i' j' => exact h0.own _ _ b hp hq
  sub := h0.sub
  immlt := h0.immlt
  basele := h0.basele
  susplt := h0.susplt }
theorem Zh5 {g : G} {a : Act} {w : World} (hs : Sim C g E s a w) {M : List V} (hl : M.length = E.length) (hM : ∀ t v, nth M t = some v → v = .dead ∨ ∃ u, nth E t = some u ∧ v = u.noOwn)
  {v : V} (hop : Zbj P C o M s v M s) (keep : Nat) (hk : keep ≤ s.length) (next : Act → World → Prop) (Q : Exit → Act → World → Prop)
  (hn : ∀ g' rv w', Le keep g w g' w' → Sim C g' (ZcC E o.dst v.noOwn) s (a.put o.dst rv) w' → next (a.put o.dst rv) w') : o.wp P a w next Q := by
 refine hop.2 (g.away E s a w) a w s.length (Nat.le_refl _) (hs.mask hl hM) next Q fun g' rv w' hle hs' => ?_
 obtain ⟨k1, k2⟩ := hs.back hle hs'.quit
 refine hn _ rv w' (k2 keep hk) ?_
 cases hd : o.dst with
 | none => exact k1
 | some d =>
  by_cases hlt : d < E.length
  ·have hv : nth (ZcC M o.dst v) d = some v := by
    rw [hd]
    have : nth M d = some (M[d]'(hl ▸ hlt)) := by rw [Zac, List.getElem?_eq_getElem (hl ▸ hlt)]
    show nth (ZaC M d v) d = some v
    rw [Zac, Za2, List.getElem?_set_self (hl ▸ hlt)]
   obtain ⟨rv', h1, h2, _⟩ := hs'.env d v hv
   have hrv : rv' = rv := by
    rw [hd, Zek (by rw [← hs.len]; exact hlt) rfl] at h1
    exact (Option.some.inj h1).symm
   subst hrv
   exact k1.put0 (some d) (h2.noOwn.same hs'.sub rfl rfl rfl) (Zav v)
  ·have e1 : ZcC E (some d) v.noOwn = E := by
    show ZaC E d v.noOwn = E
    rw [Za2, List.set_eq_of_length_le (Nat.le_of_not_lt hlt)]
   have e2 : a.put (some d) rv = a := by
    have : a.tmps.setIfInBounds d rv = a.tmps := by
     apply Array.ext'
     rw [Array.toList_setIfInBounds, List.set_eq_of_length_le (by rw [Array.length_toList, ← hs.len]; exact Nat.le_of_not_lt hlt)]
    simp [Act.put, this]
   rw [e1, e2]
   exact k1
end
end Go.VM
