/- Regions whose operations may be done in any order. -/
import Derived.Test.YtfebgjdmddegjaaDoorVmQ
import Derived.Control
import Derived.Scope
set_option linter.unusedSimpArgs false
set_option linter.unusedVariables false
namespace Go.VM
open Go.RowKit Go.Lib
section
variable {P : Program} {C : Cfg} {o : Oper} {E : List V} {s : S} {R : Type}
def Zb5 (ops : List Oper) (o : Oper) : Option Tmp :=
 match o.guard with
 | none => none
 | some (j, _) => (nth ops j).bind (·.dst)
theorem ZeX {ops : List Oper} {E : List V} {o : Oper} {K : Bool → List V → Option R} {r : R} (h : Zhn ops E o K = some r) : ∃ b, K b E = some r ∧
  ∀ (g : G) (a : Act) (w : World) (F : List V), Sim C g F s a w → (∀ d, Zb5 ops o = some d → nth F d = nth E d) → Region.wanted o (yielded ops.toArray a.tmps) = b := by
 unfold Zhn at h
 unfold Zb5 Region.wanted
 cases hg : o.guard with
 | none =>
  rw [hg] at h
  exact ⟨true, h, fun _ _ _ _ _ _ => rfl⟩
 | some jw =>
  obtain ⟨j, want⟩ := jw
  rw [hg] at h
  simp only at h ⊢
  simp only [yielded]
  have e1 : ops.toArray[j]? = nth ops j := by rw [Zaf]; simp
  rw [e1]
  cases hd : (nth ops j).bind (·.dst) with
  | none =>
   rw [hd] at h
   simp only at h
   exact ⟨false, h, fun _ _ _ _ _ _ => by simp⟩
  | some d =>
   rw [hd] at h
   simp only at h
   simp only [Option.bind_some]
   cases hv : nth E d with
   | none =>
    rw [hv] at h
    simp only at h
    refine ⟨false, h, fun g a w F hs hF => ?_⟩
    have hFd := hF d rfl
    rw [hv] at hFd
    have : a.tmps[d]? = none := by
     apply Array.getElem?_eq_none
     rw [← hs.len]
     apply Nat.le_of_not_lt
     intro hlt
     rw [Zaf, List.getElem?_eq_getElem hlt] at hFd
     cases hFd
    rw [this]
    simp
   | some v =>
    rw [hv] at h
    by_cases hb : ∃ bb, v = .bool bb
    ·obtain ⟨bb, rfl⟩ := hb
     cases bb with
     | true =>
      simp only at h
      rw [Zge hv] at h
      refine ⟨want, h, fun g a w F hs hF => ?_⟩
      obtain ⟨rv, h1, h2, _⟩ := hs.env d _ ((hF d rfl).trans hv)
      rw [h1, h2.bool_inv]
      cases want <;> rfl
     | false =>
      simp only at h
      rw [Zge hv] at h
      refine ⟨!want, h, fun g a w F hs hF => ?_⟩
      obtain ⟨rv, h1, h2, _⟩ := hs.env d _ ((hF d rfl).trans hv)
      rw [h1, h2.bool_inv]
      cases want <;> rfl
    ·have hnd : v ≠ .dead := by rintro rfl; cases h
     have h' : K false E = some r := by
      cases v <;> first | exact absurd ⟨_, rfl⟩ hb | exact absurd rfl hnd | exact h
     refine ⟨false, h', fun g a w F hs hF => ?_⟩
     obtain ⟨rv, h1, h2, _⟩ := hs.env d _ ((hF d rfl).trans hv)
     rw [h1]
     have hrv : ∀ bb, rv ≠ .bool bb := by
      rintro bb rfl
      rcases h2.not_bool with h3 | h3
      ·exact hb ⟨bb, h3⟩
      ·exact hnd h3
     cases rv <;> first | exact absurd rfl (hrv _) | (cases want <;> rfl)
theorem Zcv (a : Act) (d : Option Tmp) (v : Value) : (a.put d v).defers = a.defers := by cases d <;> rfl
theorem Zt7 (hC : Ok P C) {ops : List Oper} {K : V → List V → S → Option R} {r : R} (hcalm : Zbs C ops o = true) (h : Zg9 C ops o E s K = some r) : ∃ v E' s', K v E' s' = some r ∧ ZbW P C o E s v E s := by
 unfold Zg9 at h
 split at h
 ·-- move
  rename_i x ho
  obtain ⟨v, hv, h2⟩ := Zae h
  have hf : ZsP ops o.dst = false := by simpa [Zbs, ho] using hcalm
  rw [hf] at h2
  exact ⟨_, _, _, h2, ZsC ho hv⟩
 ·rename_i x ho
  simp [Zbs, ho] at hcalm
 ·-- pick
  rename_i c x y ho
  obtain ⟨cv, hc, h2⟩ := Zae h
  obtain ⟨v, h4, h5⟩ := ZtR (P := P) (C := C) (s := s) (K := fun v => K v E s) ho hc h2
  exact ⟨_, _, _, h4, h5⟩
 ·-- load
  rename_i t x ho
  obtain ⟨hk, h2⟩ := Zab h
  obtain ⟨p, hp, h3⟩ := Zae h2
  have hf : ZsP ops o.dst = false := by simpa [Zbs, ho] using hcalm
  rw [hf] at h3
  obtain ⟨v, h4, h5⟩ := ZsG (E := E) hC hk ho hp h3
  exact ⟨_, _, _, h4, h5⟩
 ·-- store
  rename_i t x y ho
  simp [Zbs, ho] at hcalm
 ·-- fieldAddr
  rename_i t x f ho
  obtain ⟨hk, h2⟩ := Zab h
  obtain ⟨p, hp, h3⟩ := Zae h2
  obtain ⟨v, hv, h4⟩ := Zae h3
  exact ⟨_, _, _, h4, Zfp hC hk ho hp hv⟩
 ·-- indexAddr
  rename_i t x i ho
  obtain ⟨hk, h2⟩ := Zab h
  obtain ⟨p, hp, h3⟩ := Zae h2
  obtain ⟨v, hv, h4⟩ := Zae h3
  obtain ⟨v', h5, h6⟩ := ZfD hC hk ho hp hv h4
  exact ⟨_, _, _, h5, h6⟩
 ·-- index
  rename_i t x i ho
  obtain ⟨hk, h2⟩ := Zab h
  have hk' : (C.ty t).known = true ∧ (C.ty t).str = true := by simpa using hk
  obtain ⟨p, hp, h3⟩ := Zae h2
  obtain ⟨v, hv, h4⟩ := Zae h3
  obtain ⟨v', h5, h6⟩ := ZkE hC hk'.1 hk'.2 ho hp hv h4
  exact ⟨_, _, _, h5, h6⟩
 ·-- slice
  rename_i t x lo hi mx ho
  split at h <;> first | (cases h; done) | skip
  obtain ⟨hk, h2⟩ := Zab h
  obtain ⟨p, hp, h3⟩ := Zae h2
  split at h3 <;> first | (cases h3; done) | skip
  rename_i l hh hl' hh'
  split at h3
  ·rename_i e he
   obtain ⟨hke, h4⟩ := Zab h3
   obtain ⟨v, hv, h5⟩ := ZlS h4
   exact ⟨_, _, _, h5, Ztg hC hk he hke ho hp hl' hh' hv⟩
  ·obtain ⟨hst, h4⟩ := Zab h3
   obtain ⟨v, hv, h5⟩ := Zgu h4
   exact ⟨_, _, _, h5, ZlV hC hk hst ho hp hl' hh' hv⟩
 ·-- binOp
  rename_i op t x y yt ho
  obtain ⟨a, ha, h2⟩ := Zae h
  obtain ⟨b, hb, h3⟩ := Zae h2
  obtain ⟨v, hv, h4⟩ := ZkD h3
  exact ⟨_, _, _, h4, Zs5 hC ho ha hb hv⟩
 ·rename_i op t x ho
  obtain ⟨a, ha, h2⟩ := Zae h
  obtain ⟨v, hv, h4⟩ := Zae h2
  exact ⟨_, _, _, h4, Zxl ho ha hv⟩
 ·-- convert
  rename_i src dst x ho
  obtain ⟨hk, h2⟩ := Zab h
  have hk' : (C.ty src).known = true ∧ (C.ty dst).known = true := by simpa using hk
  obtain ⟨a, ha, h3⟩ := Zae h2
  obtain ⟨v, h4, h5⟩ := ZpT hC hk'.1 hk'.2 ho ha h3
  exact ⟨_, _, _, h4, h5⟩
 ·-- nilCheck
  rename_i x ho
  obtain ⟨a, ha, h2⟩ := Zae h
  split at h2 <;> first | (cases h2; done) | skip
  ·exact ⟨_, _, _, h2, Zcw ho ha (.inl ⟨_, _, _, _, rfl⟩)⟩
  ·exact ⟨_, _, _, h2, Zcw ho ha (.inr (.inl ⟨_, rfl⟩))⟩
  ·exact ⟨_, _, _, h2, Zcw ho ha (.inr (.inr ⟨_, _, rfl⟩))⟩
 ·-- field
  rename_i t x i ho
  obtain ⟨hg, h2⟩ := Zab h
  obtain ⟨v, hv, h3⟩ := Zae h2
  obtain ⟨cs, rfl, h4⟩ := Zca h3
  split at h4 <;> first | (cases h4; done) | skip
  rename_i ft off hft hoff
  obtain ⟨hg2, h5⟩ := Zab h4
  obtain ⟨c, hc, h6⟩ := Zae h5
  simp only [Bool.and_eq_true, Bool.not_eq_true'] at hg hg2
  exact ⟨_, _, _, h6, ZoJ hC hg.1 hg2.1 hg2.2 ho hv hft hoff hc⟩
 ·-- extract
  rename_i x i ho
  obtain ⟨a, ha, h2⟩ := Zae h
  split at h2 <;> first | (cases h2; done) | skip
  obtain ⟨v, hv, h3⟩ := Zae h2
  exact ⟨_, _, _, h3, Zis ho ha hv⟩
 ·-- makeFunc
  rename_i fn first caps ho
  simp [Zbs, ho] at hcalm
 ·-- box
  rename_i t x ho
  simp [Zbs, ho] at hcalm
 ·-- alloc
  rename_i t ho
  simp [Zbs, ho] at hcalm
 ·-- build
  rename_i t parts ho
  obtain ⟨hk, h2⟩ := Zab h
  split at h2 <;> first | (cases h2; done) | skip
  rename_i ps hps
  obtain ⟨hg, h3⟩ := Zab h2
  have hg' : (C.ty t).agg = true ∧ (ps.all fun p => p.2.flat) = true := by
   rw [Bool.and_eq_true] at hg; exact hg
  split at h3 <;> first | (cases h3; done) | skip
  rename_i cs hcs
  exact ⟨_, _, _, h3, ZoI hC hk hg'.1 ho hps hg'.2 hcs⟩
 ·-- buildSlice
  rename_i t len parts ho
  simp [Zbs, ho] at hcalm
 ·-- makeSlice
  rename_i t x y ho
  simp [Zbs, ho] at hcalm
 ·cases h
theorem ZvO (hC : Ok P C) {Φ : Zan} (hΦ : Zaa P C Φ) {ops : List Oper} {K : V → List V → S → Option R} {r : R} (hcalm : Zbs C ops o = true) (h : opV C Φ ops o E s K = some r) :
  ∃ v E' s', K v E' s' = some r ∧ ZbW P C o E s v E s := by
 unfold opV at h
 split at h
 ·rename_i c ho
  split at h <;> first | (cases h; done) | skip
  rename_i args ha
  split at h
  ·rename_i b hcal
   obtain ⟨v, s', h1, hs', h2, _⟩ := ZeK (P := P) (K := fun v s' => K v (ZdG b E c.args.toList) s') hC ho hcal ha h
   have hb : b = .len ∨ b = .min ∨ b = .max := by
    cases b <;> simp [Zbs, ho, hcal] at hcalm <;> simp
   have hstrip : ZdG b E c.args.toList = E := by
    rcases hb with rfl | rfl | rfl <;> (unfold ZdG; split <;> first | rfl | (rename_i h _; cases h) | rfl)
   have hs2 : s' = s := by
    rcases hs' with h | h | h
    ·rw [h] at hb; simp at hb
    ·rw [h] at hb; simp at hb
    ·exact h
   subst hs2
   rw [hstrip] at h2
   exact ⟨v, _, _, h1, h2⟩
  ·rename_i x hcal
   obtain ⟨fv, hf, h2⟩ := Zae h
   split at h2 <;> first | (cases h2; done) | skip
   rename_i f caps
   have hm : C.mode f = .pure := by
    cases x with
    | func g =>
     simp only [ev] at hf
     have := Option.some.inj hf
     injection this with h3 h4
     subst h3
     simp only [Zbs, ho, hcal] at hcalm
     cases hmode : C.mode g with
     | pure => rfl
     | shared => rw [hmode] at hcalm; cases hcalm
     | own => rw [hmode] at hcalm; cases hcalm
    | _ => simp [Zbs, ho, hcal] at hcalm
   unfold Zvn at h2
   rw [hm] at h2
   simp only at h2
   obtain ⟨as, hfr, h2⟩ := Zc5 (f := ZbU true s 12) (g := ZaY true s 12) (fun a K r h => ZcO h) h2
   obtain ⟨v, h3, h4⟩ := ZhB hΦ (K := fun v s' => K v E s') ho hcal hf (Zb3.argsN ha) hm hfr h2
   exact ⟨v, E, s, h3, h4⟩
  ·cases h
 ·exact Zt7 hC hcalm h
theorem ZhD (v : V) : v.noOwnCell.noOwnCell = v.noOwnCell := by
 cases v <;> first | rfl | skip
 rename_i sz es f
 cases f <;> rfl
theorem Zor (v : V) : v.noOwn.noOwn = v.noOwn := by
 cases v with
 | list sz es f => cases f <;> rfl
 | agg cs => simp [V.noOwn, ZhD]
 | _ => rfl
theorem Zta (hC : Ok P C) {Φ : Zan} (hΦ : Zaa P C Φ) {ops : List Oper} {K : V → List V → S → Option R} {r : R} (hcalm : Zcf C ops o = true) (h : opV C Φ ops o E s K = some r) :
  ∃ v E' s' v', K v E' s' = some r ∧ v'.noOwn = v.noOwn ∧ ZbW P C o E s v' E s := by
 by_cases ha : ∃ x, o.op = .assign x
 ·obtain ⟨x, ho⟩ := ha
  unfold opV at h
  rw [ho] at h
  simp only at h
  unfold Zg9 at h
  rw [ho] at h
  simp only at h
  obtain ⟨v, hv, h2⟩ := Zae h
  exact ⟨v, _, _, v.noOwn, h2, Zor v, ZbW.calm (ZaF v) fun g a w hs => ⟨_, by simp [execOp, ho], (hs.evt hv).1.noOwn⟩⟩
 ·have h0 : Zbs C ops o = true := by
   unfold Zcf at hcalm
   split at hcalm
   ·rename_i x ho; exact absurd ⟨x, ho⟩ ha
   ·exact hcalm
  obtain ⟨v, E', s', h1, h2⟩ := ZvO hC hΦ h0 h
  exact ⟨v, E', s', v, h1, rfl, h2⟩
theorem Zfu (ts : List Nat) : ∀ (E : List V) (k : Nat), (ZeR ts k E).length = E.length
 | [], _ => rfl
 | v :: l, k => by simp [ZeR, Zfu ts l (k + 1)]
theorem ZgS (ts : List Nat) : ∀ (E : List V) (k t : Nat) (v : V), nth (ZeR ts k E) t = some v → v = .dead ∨ (k + t ∈ ts ∧ ∃ u, nth E t = some u ∧ v = u.noOwn)
 | [], _, t, v, h => by cases t <;> simp [ZeR, nth] at h
 | u :: l, k, t, v, h => by
  cases t with
  | zero =>
   simp only [ZeR, nth] at h
   split at h
   ·rename_i hm
    obtain ⟨x, hx, hb⟩ := List.any_eq_true.1 hm
    have := Nat.eq_of_beq_eq_true hb
    exact .inr ⟨by rw [Nat.add_zero, this]; exact hx, u, rfl, (Option.some.inj h).symm⟩
   ·exact .inl (Option.some.inj h).symm
  | succ t =>
   rcases ZgS ts l (k + 1) t v h with h1 | ⟨h1, h2⟩
   ·exact .inl h1
   ·exact .inr ⟨by rw [show k + (t + 1) = k + 1 + t by omega]; exact h1, h2⟩
theorem Sim.mask {g : G} {a : Act} {w : World} (hs : Sim C g E s a w) {M : List V} (hl : M.length = E.length) (hM : ∀ t v, nth M t = some v → v = .dead ∨ ∃ u, nth E t = some u ∧ v = u.noOwn) :
  Sim C (g.away E s a w) M s a w := by
 have h0 := hs.leave
 have hst : ∀ t v, nth M t = some v → v.still := fun t v hv => by
  rcases hM t v hv with rfl | ⟨u, _, rfl⟩
  ·simp [V.still]
  ·exact ZaF u
 exact {
  len := by rw [hl]; exact hs.len
  env := fun t v hv => by
   rcases hM t v hv with rfl | ⟨u, hu, rfl⟩
   ·have hlt : t < E.length := by rw [← hl]; exact ZaC hv
    obtain ⟨rv, h1, _, _⟩ := hs.env t E[t] (by rw [Zaf, List.getElem?_eq_getElem hlt])
    exact ⟨rv, h1, .dead rv, OwnOk.of_not (by simp [V.still])⟩
   ·obtain ⟨rv, h1, h2, _⟩ := hs.env t u hu
    exact ⟨rv, h1, h2.noOwn.same hs.sub rfl rfl rfl, OwnOk.of_not (ZaF u)⟩
  olen := h0.olen
  obj := h0.obj
  gone := h0.gone
  inj := h0.inj
  own := fun p q b hp hq => by
   have ns : ∀ t, ¬ Zau M s a w (g.away E s a w) (.slot t) b := by
    rintro t ⟨sz, es, e, rv, h1, _⟩
    exact (hst t _ h1).1 sz es e rfl
   cases p with
   | slot t => exact absurd hp (ns t)
   | cell o i j => cases q with
    | slot t => exact absurd hq (ns t)
    | cell o' i' j' => exact h0.own _ _ b hp hq
  sub := h0.sub
  immlt := h0.immlt
  basele := h0.basele
  susplt := h0.susplt }
theorem ZkA {g : G} {a : Act} {w : World} (hs : Sim C g E s a w) {M : List V} (hl : M.length = E.length) (hM : ∀ t v, nth M t = some v → v = .dead ∨ ∃ u, nth E t = some u ∧ v = u.noOwn)
  {v : V} (hop : ZbW P C o M s v M s) (keep : Nat) (hk : keep ≤ s.length) (next : Act → World → Prop) (Q : Exit → Act → World → Prop)
  (hn : ∀ g' rv w', Le keep g w g' w' → Sim C g' (Zdz E o.dst v.noOwn) s (a.put o.dst rv) w' → next (a.put o.dst rv) w') : o.wp P a w next Q := by
 refine hop.2 (g.away E s a w) a w s.length (Nat.le_refl _) (hs.mask hl hM) next Q fun g' rv w' hle hs' => ?_
 obtain ⟨k1, k2⟩ := hs.back hle hs'.quit
 refine hn _ rv w' (k2 keep hk) ?_
 cases hd : o.dst with
 | none => exact k1
 | some d =>
  by_cases hlt : d < E.length
  ·have hv : nth (Zdz M o.dst v) d = some v := by
    rw [hd]
    have : nth M d = some (M[d]'(hl ▸ hlt)) := by rw [Zaf, List.getElem?_eq_getElem (hl ▸ hlt)]
    show nth (ZaM M d v) d = some v
    rw [Zaf, Zbl, List.getElem?_set_self (hl ▸ hlt)]
   obtain ⟨rv', h1, h2, _⟩ := hs'.env d v hv
   have hrv : rv' = rv := by
    rw [hd, ZfX (by rw [← hs.len]; exact hlt) rfl] at h1
    exact (Option.some.inj h1).symm
   subst hrv
   exact k1.put0 (some d) (h2.noOwn.same hs'.sub rfl rfl rfl) (ZaF v)
  ·have e1 : Zdz E (some d) v.noOwn = E := by
    show ZaM E d v.noOwn = E
    rw [Zbl, List.set_eq_of_length_le (Nat.le_of_not_lt hlt)]
   have e2 : a.put (some d) rv = a := by
    have : a.tmps.setIfInBounds d rv = a.tmps := by
     apply Array.ext'
     rw [Array.toList_setIfInBounds, List.set_eq_of_length_le (by rw [Array.length_toList, ← hs.len]; exact Nat.le_of_not_lt hlt)]
    simp [Act.put, this]
   rw [e1, e2]
   exact k1
end
end Go.VM
