/- Blocks that are laid in any order become objects in the order of the text. -/
import Derived.Test.YtgjcdpfclpiooaaDoorVmRc
set_option linter.unusedSimpArgs false
set_option linter.unusedVariables false
namespace Go.VM
open Go.RowKit Go.Lib

section
variable {P : Program} {C : Cfg} {o : Oper} {E : List V} {s : S} {R : Type}

/-- A block that is laid and is no object yet. -/
structure Held (C : Cfg) (g : G) (a : Act) (w : World) (d : Nat) (ob : Ob) (v : V) (b : Nat) : Prop where
  susp : g.susp b
  low : g.base ≤ b
  lt : b < w.heap.size
  nimm : ∀ i, ¬ g.imm b i
  still : v.still
  ver : ob.ver = 0
  esz : ob.esz = (C.ty ob.elem).size
  known : (C.ty ob.elem).known = true
  sz : ∀ i e, nth ob.es i = some e → e.cells.length = (C.ty ob.elem).size
  flat : ∀ i e j c, nth ob.es i = some e → nth e.cells j = some c → c.flatCell = true
  blk : ∃ rv arr cap, w.heap[b]? = some (.cells arr ob.elem (0, 0)) ∧ arr.size = cap * (C.ty ob.elem).size ∧ cap ≤ maxLen ∧ ob.es.length ≤ cap ∧ (∀ (k : Nat) (v : Value), arr[k]? = some v → v.oneCell' = true) ∧
      (∀ i e j c, nth ob.es i = some e → nth e.cells j = some c → ∃ rv, arr[i * (C.ty ob.elem).size + j]? = some rv ∧ (∀ g w, VR g w c rv) ∧ (∀ g w, OwnOk C g w c rv) ∧ rv.ownBlock = none) ∧
      (d < a.tmps.size → a.tmps[d]? = some rv) ∧ ∀ g' w1 N, N < g'.obs.length → nth g'.obs N = some (some (0, b, (C.ty ob.elem).size, arr.size)) → VR g' w1 (setIx N v) rv

theorem setIx_still {v : V} (n : Nat) (h : v.still) : (setIx n v).still := by
  cases v <;> first | exact h | simp [setIx, V.still]

theorem Held.step {g g' : G} {a : Act} {w w' : World} {d b keep : Nat} {ob : Ob} {v : V} (h : Held C g a w d ob v b) (hle : Le keep g w g' w') {d' : Option Tmp} (rv' : Value) (hd : d' ≠ some d) : Held C g' (a.put d' rv') w' d ob v b where
  susp := (hle.susp b).2 h.susp
  low := by rw [hle.base]; exact h.low
  lt := Nat.lt_of_lt_of_le h.lt hle.size
  nimm := fun i hi => h.nimm i ((hle.sus b h.susp).2.1 i hi)
  still := h.still
  ver := h.ver
  esz := h.esz
  known := h.known
  sz := h.sz
  flat := h.flat
  blk := by
    obtain ⟨rv, arr, cap, h1, h2, h3, h4, h5, h6, h7, h8⟩ := h.blk
    refine ⟨rv, arr, cap, by rw [(hle.sus b h.susp).1]; exact h1, h2, h3, h4, h5, h6, fun hlt => ?_, h8⟩
    rw [put_size] at hlt
    cases d' with
    | none => exact h7 hlt
    | some d' => rw [put_get_ne (fun e => hd (by rw [e]))]; exact h7 hlt

theorem Held.with {g g' : G} {a : Act} {w : World} {d b : Nat} {ob : Ob} {v : V} (h : Held C g a w d ob v b) (hs : g'.susp b) (hb : g'.base = g.base) (hi : g'.imm = g.imm) : Held C g' a w d ob v b :=
  { h with susp := hs, low := by rw [hb]; exact h.low, nimm := by rw [hi]; exact h.nimm }

theorem own_nsusp {g : G} {a : Act} {w : World} (hs : Sim C g E s a w) {p : Loc} {b : Nat} (h : OwnsAt E s a w g p b) : ¬ g.susp b := by
  obtain ⟨sz, es, e, rv, h1, h2⟩ := owns_own hs h
  obtain ⟨_, _, k2, _⟩ := h1.own sz es e rfl
  exact (k2 b h2).1

/-- A laid block is taken for an object. -/
theorem Sim.adopt {g : G} {a : Act} {w : World} (hs : Sim C g E s a w) {d b : Nat} {ob : Ob} {v : V} (hh : Held C g a w d ob v b) :
    ∃ x, Sim C { g with obs := g.obs ++ [some x], susp := fun b' => g.susp b' ∧ b' ≠ b } (setAt E d (setIx s.length v)) (s ++ [some ob]) a w := by
  obtain ⟨rv, arr, cap, hb, hcap, hm, hl, hone, hc, hd, hvr⟩ := hh.blk
  let x : Nat × Nat × Nat × Nat := (0, b, (C.ty ob.elem).size, arr.size)
  let g' : G := { g with obs := g.obs ++ [some x], susp := fun b' => g.susp b' ∧ b' ≠ b }
  have hkeep : Keeps g w g' w := ⟨fun _ _ h => h, fun _ _ h => h, fun _ _ _ => rfl⟩
  have hol : ObsLe g g' := ⟨by simp [g'], fun o ho x' hx => by
    simp only [g', nth_append_lt ho] at hx
    exact ⟨x', hx, Nat.le_refl _, fun _ => rfl⟩⟩
  have own2 : ∀ v rv, OwnOk C g w v rv → OwnOk C g' w v rv := by
    intro v rv h
    refine ⟨fun sz es e hv => ?_, h.agg⟩
    obtain ⟨h1, h2, h3, h4⟩ := h.own sz es e hv
    refine ⟨h1, h2, fun b' hb' => ?_, h4⟩
    obtain ⟨h5, h6, h7⟩ := h3 b' hb'
    refine ⟨fun hc => h5 hc.1, h6, fun o x' hx => ?_⟩
    rcases nth_append_one hx with ⟨_, hx⟩ | ⟨_, hx⟩
    · exact h7 o x' hx
    · obtain rfl := Option.some.inj hx
      intro e
      have e' : b = b' := e
      exact h5 (by rw [← e']; exact hh.susp)
  have ownsAt : ∀ p b', OwnsAt E (s ++ [some ob]) a w g' p b' → OwnsAt E s a w g p b' := by
    intro p b' hp
    cases p with
    | slot t => exact hp
    | cell o i j =>
      obtain ⟨ob', x', el, sz, es', e', rv', h1, h2, h3, h4, h5, h6⟩ := hp
      rcases nth_append_one h1 with ⟨hlt, h1'⟩ | ⟨rfl, h1'⟩
      · have h2' : nth g.obs o = some (some x') := by
          simp only [g', nth_append_lt (by rw [hs.olen]; exact hlt : o < g.obs.length)] at h2; exact h2
        exact ⟨ob', x', el, sz, es', e', rv', h1', h2', h3, h4, h5, h6⟩
      · obtain rfl := Option.some.inj h1'
        have hx : x' = x := by
          have := h2
          simp only [g'] at this
          rw [← hs.olen, nth_append_last] at this
          exact (Option.some.inj (Option.some.inj this)).symm
        subst hx
        obtain ⟨rv2, r1, _, _, r4⟩ := hc i el j _ h3 h4
        have h7 : w.cell? ⟨b, i * (C.ty ob'.elem).size + j, none⟩ = some rv2 := by
          simp only [World.cell?, hb, Option.isSome_none, Bool.false_eq_true, if_false]
          exact r1
        have h5' : w.cell? ⟨b, i * (C.ty ob'.elem).size + j, none⟩ = some rv' := by rw [← hh.esz]; exact h5
        rw [h7] at h5'
        obtain rfl := Option.some.inj h5'
        rw [r4] at h6; cases h6
  have hsim : Sim C g' E (s ++ [some ob]) a w := {
      len := hs.len
      env := fun t' v hv => by
        obtain ⟨rv, h1, h2, h3⟩ := hs.env t' v hv
        exact ⟨rv, h1, h2.keeps hs.sub hkeep hol, own2 v rv h3⟩
      olen := by simp [g', hs.olen]
      obj := fun o ob' ho => by
        rcases nth_append_one ho with ⟨hlt, ho'⟩ | ⟨rfl, ho'⟩
        · obtain ⟨x', hx, hr⟩ := hs.obj o ob' ho'
          obtain ⟨arr', cap', b1, b2, b3, b4, b5, b7, b6⟩ := hr.blk
          refine ⟨x', by simp only [g']; rw [nth_append_lt (by rw [hs.olen]; exact hlt)]; exact hx, hr.ver, hr.esz, hr.ty, hr.known,
            ⟨arr', cap', b1, b2, b3, b4, b5, b7, fun i e j c h1 h2 => ?_⟩, hr.sz, hr.flat, hr.base, fun hc => hr.nsusp hc.1, hr.nimm⟩
          obtain ⟨rv, r1, r2, r3⟩ := b6 i e j c h1 h2
          exact ⟨rv, r1, r2.keeps hs.sub hkeep hol, own2 c rv r3⟩
        · obtain rfl := Option.some.inj ho'
          refine ⟨x, by simp only [g']; rw [← hs.olen, nth_append_last], hh.ver.symm, hh.esz.symm, hh.esz, hh.known,
            ⟨arr, cap, hb, rfl, by rw [hh.esz]; exact hcap, hm, hl, hone, fun i e j c h1 h2 => ?_⟩, fun i e hi => by rw [hh.esz]; exact hh.sz i e hi, hh.flat, hh.low, fun hb => hb.2 rfl, hh.nimm⟩
          obtain ⟨rv, r1, r2, r3, _⟩ := hc i e j c h1 h2
          exact ⟨rv, by rw [hh.esz]; exact r1, r2 _ _, r3 _ _⟩
      gone := fun o x' hx => by
        rcases nth_append_one hx with ⟨hlt, hx'⟩ | ⟨rfl, hx'⟩
        · obtain ⟨ob', hob⟩ := hs.gone o x' hx'
          exact ⟨ob', by rw [nth_append_lt (by rw [← hs.olen]; exact hlt)]; exact hob⟩
        · exact ⟨_, by rw [hs.olen, nth_append_last]⟩
      inj := fun o o' x1 x2 hx hx' hbb => by
        have nsus : ∀ o x', nth g.obs o = some (some x') → x'.2.1 ≠ b := by
          intro o x' hx e
          obtain ⟨ob', hob⟩ := hs.gone o x' hx
          exact (hs.at_obj hob hx).nsusp (by rw [e]; exact hh.susp)
        rcases nth_append_one hx with ⟨hlt, k1⟩ | ⟨rfl, k1⟩ <;> rcases nth_append_one hx' with ⟨hlt', k2⟩ | ⟨rfl, k2⟩
        · exact hs.inj o o' x1 x2 k1 k2 hbb
        · obtain rfl := Option.some.inj k2
          exact absurd hbb (nsus o x1 k1)
        · obtain rfl := Option.some.inj k1
          exact absurd hbb.symm (nsus o' x2 k2)
        · rfl
      own := fun p q b hp hq => hs.own p q b (ownsAt p b hp) (ownsAt q b hq)
      sub := hs.sub
      immlt := hs.immlt
      basele := hs.basele
      susplt := fun b' hb' => hs.susplt b' hb'.1 }
  refine ⟨x, ?_⟩
  show Sim C g' (setAt E d (setIx s.length v)) (s ++ [some ob]) a w
  by_cases hlt : d < a.tmps.size
  · have h1 : VR g' w (setIx s.length v) rv := hvr g' w s.length (by simp [g', hs.olen]) (by simp only [g']; rw [← hs.olen, nth_append_last])
    have := hsim.put0 (some d) h1 (setIx_still _ hh.still)
    have e2 : a.put (some d) rv = a := by
      have h2 : a.tmps.setIfInBounds d rv = a.tmps := by
        apply Array.ext'
        rw [Array.toList_setIfInBounds]
        apply List.ext_getElem?
        intro k
        by_cases hk : d = k
        · subst hk
          rw [List.getElem?_set_self (by simpa using hlt), Array.getElem?_toList, hd hlt]
        · rw [List.getElem?_set_ne hk]
      simp [Act.put, h2]
    rw [e2] at this
    exact this
  · rw [setAt_eq, List.set_eq_of_length_le (by rw [hs.len]; exact Nat.le_of_not_lt hlt)]
    exact hsim

abbrev Laid := List (Nat × Nat × Ob × V)

theorem flush_ok {a : Act} {w : World} {H : Nat → Nat} : ∀ (ps : Laid) {E : List V} {s : S} {g : G}, Sim C g E s a w → (∀ q ∈ ps, Held C g a w q.2.1 q.2.2.1 q.2.2.2 (H q.1)) → ps.Pairwise (fun p q => H p.1 ≠ H q.1) →
    s.length ≤ (flushS (ps.map (·.2)) s).length ∧ ∃ g' xs, Sim C g' (flushE (ps.map (·.2)) E s) (flushS (ps.map (·.2)) s) a w ∧ g'.base = g.base ∧ g'.imm = g.imm ∧ g'.safe = g.safe ∧ g'.obs = g.obs ++ xs ∧ ∀ b, g'.susp b ↔ (g.susp b ∧ ∀ q ∈ ps, H q.1 ≠ b)
  | [], E, s, g, hs, _, _ => ⟨Nat.le_refl _, g, [], hs, rfl, rfl, rfl, by simp, fun b => by simp⟩
  | (i, d, ob, v) :: ps, E, s, g, hs, hh, hp => by
    obtain ⟨x, h1⟩ := hs.adopt (hh (i, d, ob, v) (by simp))
    obtain ⟨hp1, hp2⟩ := List.pairwise_cons.1 hp
    obtain ⟨hl, g', xs, k1, k2, k3, k4, k5, k6⟩ := flush_ok ps h1 (fun q hq => (hh q (by simp [hq])).with ⟨(hh q (by simp [hq])).susp, fun e => hp1 q hq e.symm⟩ rfl rfl) hp2
    refine ⟨?_, g', some x :: xs, k1, k2, k3, k4, by rw [k5]; simp, fun b => ?_⟩
    · simp only [List.map_cons, flushS]
      simp at hl
      omega
    · rw [k6]
      simp only [List.mem_cons]
      constructor
      · rintro ⟨⟨h2, h3⟩, h4⟩
        refine ⟨h2, fun q hq => ?_⟩
        rcases hq with rfl | hq
        · exact fun e => h3 e.symm
        · exact h4 q hq
      · rintro ⟨h2, h3⟩
        exact ⟨⟨h2, fun e => h3 _ (.inl rfl) e.symm⟩, fun q hq => h3 q (.inr hq)⟩

/-- A block is laid and held. -/
theorem Sim.hold {g : G} {a : Act} {w : World} (hs : Sim C g E s a w) (blk : Obj) (d : Nat) (rv : Value) :
    Sim C { g with susp := fun b => g.susp b ∨ b = w.heap.size } (setAt E d .dead) s (a.put (some d) rv) (w.alloc blk) := by
  have hlow : ∀ b, b < w.heap.size → (w.alloc blk).heap[b]? = w.heap[b]? := fun b hb => alloc_low w _ hb
  have h1 := hs.ext (w' := w.alloc blk) (by simp) hlow
  let g' : G := { g with susp := fun b => g.susp b ∨ b = w.heap.size }
  have own2 : ∀ v rv, OwnOk C g w v rv → OwnOk C g' (w.alloc blk) v rv := by
    intro v rv h
    refine ⟨fun sz es e hv => ?_, h.agg⟩
    obtain ⟨k1, ⟨xs, k2⟩, k3, k4⟩ := h.own sz es e hv
    refine ⟨k1, ⟨xs, ownsRow_same k2 fun b hb' => hlow b (ownsRow_lt k2 hb').1⟩, fun b hb => ?_, k4⟩
    obtain ⟨k5, k6, k7⟩ := k3 b hb
    have := (ownsRow_lt k2 hb).1
    exact ⟨fun hc => by rcases hc with hc | hc; exact k5 hc; omega, k6, k7⟩
  have h2 : Sim C g' E s a (w.alloc blk) := {
    len := h1.len
    env := fun t v hv => by
      obtain ⟨rv, r1, r2, r3⟩ := hs.env t v hv
      obtain ⟨rv', r1', r2', _⟩ := h1.env t v hv
      rw [r1] at r1'
      obtain rfl := Option.some.inj r1'
      exact ⟨rv, r1, r2'.same h1.sub rfl rfl rfl, own2 v rv r3⟩
    olen := h1.olen
    obj := fun o ob ho => by
      obtain ⟨x, hx, hr⟩ := hs.obj o ob ho
      obtain ⟨arr, cap, b1, b2, b3, b4, b5, b7, b6⟩ := hr.blk
      have hlt := block_lt b1
      refine ⟨x, hx, hr.ver, hr.esz, hr.ty, hr.known, ⟨arr, cap, by rw [hlow _ hlt]; exact b1, b2, b3, b4, b5, b7, fun i e j c h1' h2' => ?_⟩, hr.sz, hr.flat, hr.base, fun hc => ?_, hr.nimm⟩
      · obtain ⟨rv, r1, r2, r3⟩ := b6 i e j c h1' h2'
        exact ⟨rv, r1, (r2.keeps hs.sub (hs.keeps_ext hlow) (ObsLe.refl g)).same h1.sub rfl rfl rfl, own2 c rv r3⟩
      · rcases hc with hc | hc
        · exact hr.nsusp hc
        · omega
    gone := h1.gone
    inj := h1.inj
    own := h1.own
    sub := h1.sub
    immlt := h1.immlt
    basele := h1.basele
    susplt := fun b hb => by
      rcases hb with hb | hb
      · exact h1.susplt b hb
      · subst hb; simp }
  exact h2.put0 (some d) (.dead rv) (by simp [V.still])

theorem Le.rest {keep : Nat} {g0 g g' : G} {w0 w w' : World} (h : Le keep g0 w0 { g with susp := g0.susp } w) (hsub : ∀ b, g0.susp b → g.susp b) (k : Le keep g w g' w') : Le keep g0 w0 { g' with susp := g0.susp } w' :=
  h.trans { keeps := ⟨k.keeps.imm, k.keeps.safe, k.keeps.cell⟩, size := k.size, os := k.os, tape := k.tape, output := k.output, base := k.base, susp := fun _ => Iff.rfl, low := k.low, sus := fun b hb => k.sus b (hsub b hb), klen := k.klen, obs := k.obs }

end
end Go.VM
