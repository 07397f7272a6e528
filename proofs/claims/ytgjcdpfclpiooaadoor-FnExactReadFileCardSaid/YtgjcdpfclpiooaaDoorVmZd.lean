/- A call that sees no object: what it does stands in any state. -/
import Derived.Test.YtgjcdpfclpiooaaDoorVmZc
set_option linter.unusedSimpArgs false
set_option linter.unusedVariables false
namespace Go.VM
open Go.RowKit Go.Lib

def freshS (S : S) (s' : Go.VM.S) : Go.VM.S := S ++ s'.map (Option.map (Ob.ren S.length (S.length + 1)))

section
variable {P : Program} {C : Cfg} {o n : Nat}

theorem SharedAt.frame0 {f : FuncId} {S : S} {as : List V} {v : V} {s' : Go.VM.S} (has : as.all V.noRef = true) (h : SharedAt P C f as [] v s') :
    SharedAt P C f as S (v.ren S.length (S.length + 1)) (freshS S s') := by
  obtain ⟨hst, hsl, hcall⟩ := h
  have hSl : (freshS S s').length = S.length + s'.length := by simp [freshS]
  refine ⟨ren_still hst, by rw [hSl]; omega, fun g w rvs keep hk hs hrl hargs => ?_⟩
  let fr : Nat → Prop := fun b => (∃ o' x, nth g.obs o' = some (some x) ∧ x.2.1 = b) ∨ ∃ o' i j, OwnsAt [] S emptyAct w g (.cell o' i j) b
  let g1 : G := { base := g.base, imm := g.imm, safe := g.safe, susp := fun b => g.susp b ∨ fr b, obs := [] }
  have hsmall : Sim C g1 [] [] emptyAct w := {
    len := rfl
    env := fun t v hv => by simp [nth] at hv
    olen := rfl
    obj := fun o ob ho => by simp [nth] at ho
    gone := fun o x hx => by simp [g1, nth] at hx
    inj := fun o o' x x' hx => by simp [g1, nth] at hx
    own := fun p q b hp => by
      cases p with
      | slot t => obtain ⟨sz, es, e, rv, h1, _⟩ := hp; simp [nth] at h1
      | cell o i j => obtain ⟨ob, x, el, sz, es, e, rv, h1, _⟩ := hp; simp [nth] at h1
    sub := hs.sub
    immlt := hs.immlt
    basele := hs.basele
    susplt := fun b hb => by
      rcases hb with hsb | ⟨o', x, hx, rfl⟩ | ⟨o', i', j', hown⟩
      · exact hs.susplt b hsb
      · obtain ⟨ob2, hob2⟩ := hs.gone o' x hx
        obtain ⟨arr, cap, b1, _⟩ := (hs.at_obj hob2 hx).blk
        exact block_lt b1
      · obtain ⟨ob2, x2, el, sz, es, e, rv, h1, h2, h3, h4, h5, h6⟩ := hown
        obtain ⟨arr2, cap2, c1, _, _, _, _, _, c6⟩ := (hs.at_obj h1 h2).blk
        obtain ⟨rv2, r1, r2, r3⟩ := c6 i' el j' _ h3 h4
        obtain ⟨_, ⟨xs, hxs⟩, _⟩ := r3.own sz es e rfl
        have hrv : rv2 = rv := by
          have := cell_of_block c1 r1
          rw [this] at h5
          exact Option.some.inj h5
        subst hrv
        exact (ownsRow_lt hxs h6).1 }
  refine (hcall g1 w rvs 0 (by simp) hsmall hrl fun i c rv hc hr => ?_).mono fun rv w' hw => ?_
  · obtain ⟨h1, h2⟩ := hargs i c rv hc hr
    have hn : c.noRef = true := List.all_eq_true.1 has c (List.mem_of_getElem? (by rw [← nth_eq]; exact hc))
    exact ⟨h1.noRef_to (g1 := g1) hs.sub (fun _ _ h => h) (fun _ _ h => h) hn, h2⟩
  obtain ⟨g1', hle, hs', hv⟩ := hw
  have hol := hs'.olen
  have hog : g.obs.length = S.length := hs.olen
  let g' : G := { base := g.base, imm := g1'.imm, safe := g1'.safe, susp := g.susp, obs := g.obs ++ g1'.obs }
  have hfr : ∀ b, fr b → w'.heap[b]? = w.heap[b]? ∧ (∀ i, g1'.imm b i → g.imm b i) ∧ ∀ i, g1'.safe b i → g.safe b i := fun b hb => hle.sus b (.inr hb)
  have hsusp : ∀ b, g1'.susp b ↔ g.susp b ∨ fr b := fun b => hle.susp b
  have ix : ∀ i, renIx S.length (S.length + 1) i = S.length + i := by
    intro i
    cases i with
    | zero => rfl
    | succ i => simp only [renIx]; omega
  have atfr : ∀ q, q < S.length → nth g'.obs q = nth g.obs q := fun q hq => nth_append_lt (by rw [hog]; exact hq)
  have atnew : ∀ i, nth g'.obs (S.length + i) = nth g1'.obs i := by
    intro i
    show nth (g.obs ++ g1'.obs) _ = _
    rw [nth_append_ge (by rw [hog]; omega), hog]
    congr 1
    omega
  have stands : Stands g1' g' S.length (S.length + 1) := by
    refine ⟨fun _ _ h => h, fun _ _ h => h, fun i hi => ?_, fun i hi => ?_⟩
    · show _ < (g.obs ++ g1'.obs).length
      rw [List.length_append, hog, ix]
      omega
    · rw [ix]; exact atnew i
  have cases_obs : ∀ q x, nth g'.obs q = some (some x) → (q < S.length ∧ nth g.obs q = some (some x)) ∨ ∃ i, q = S.length + i ∧ nth g1'.obs i = some (some x) := by
    intro q x hx
    by_cases hq : q < S.length
    · rw [atfr q hq] at hx
      exact .inl ⟨hq, hx⟩
    · obtain ⟨i, rfl⟩ : ∃ i, q = S.length + i := ⟨q - S.length, by omega⟩
      rw [atnew i] at hx
      exact .inr ⟨i, rfl, hx⟩
  have cases_S : ∀ q ob2, nth (freshS S s') q = some (some ob2) → (q < S.length ∧ nth S q = some (some ob2)) ∨ ∃ i ob1, q = S.length + i ∧ nth s' i = some (some ob1) ∧ ob2 = ob1.ren S.length (S.length + 1) := by
    intro q ob2 hx
    simp only [freshS] at hx
    by_cases hq : q < S.length
    · rw [nth_append_lt hq] at hx
      exact .inl ⟨hq, hx⟩
    · obtain ⟨i, rfl⟩ : ∃ i, q = S.length + i := ⟨q - S.length, by omega⟩
      rw [nth_append_ge (by omega), show S.length + i - S.length = i by omega] at hx
      obtain ⟨u, hu, he⟩ := nth_map_some hx
      cases u with
      | none => cases he
      | some ob1 => exact .inr ⟨i, ob1, rfl, hu, (Option.some.inj he).symm⟩
  have keeps : Keeps g w g' w' := ⟨hle.keeps.imm, hle.keeps.safe, hle.keeps.cell⟩
  have obsle : ObsLe g g' := by
    refine ⟨by show _ ≤ (g.obs ++ g1'.obs).length; rw [List.length_append]; omega, fun q hq x' hx' => ?_⟩
    rw [hog] at hq
    rw [atfr q hq] at hx'
    exact ⟨x', hx', Nat.le_refl _, fun _ => rfl⟩
  have le : Le keep g w g' w' := {
    keeps := keeps
    size := hle.size
    os := hle.os
    tape := hle.tape
    output := hle.output
    base := rfl
    susp := fun _ => Iff.rfl
    low := fun b hb => hle.low b hb
    sus := fun b hb => hle.sus b (.inl hb)
    klen := by show _ ≤ (g.obs ++ g1'.obs).length; rw [List.length_append]; omega
    obs := fun q hq x' hx' => obsle.at_ q (by omega) x' hx' }
  have frblk : ∀ q x, nth g.obs q = some (some x) → fr x.2.1 := fun q x hx => .inl ⟨q, x, hx, rfl⟩
  have newns : ∀ i x, nth g1'.obs i = some (some x) → ¬ fr x.2.1 := by
    intro i x hx hf
    obtain ⟨ob1, hob1⟩ := hs'.gone i x hx
    exact (hs'.at_obj hob1 hx).nsusp ((hsusp _).2 (.inr hf))
  have ownfr : ∀ q i j b, OwnsAt [] S emptyAct w g (.cell q i j) b → fr b := fun q i j b h => .inr ⟨q, i, j, h⟩
  have cellR : ∀ {ob1 : Ob} {e c : V} {k j : Nat} {x : Nat × Nat × Nat × Nat}, ObR C g1' w' ob1 x → nth (ob1.ren S.length (S.length + 1)).es k = some e → nth e.cells j = some c → ∃ e0 c0, nth ob1.es k = some e0 ∧ nth e0.cells j = some c0 ∧ c = Go.VM.renCell S.length (S.length + 1) c0 ∧ c0.flatCell = true := by
    intro ob1 e c k j x hr he hc
    obtain ⟨e0, he0, rfl⟩ := nth_map_some he
    rw [ren1_cells (hr.cells_flat he0)] at hc
    obtain ⟨c0, hc0, rfl⟩ := nth_map_some hc
    exact ⟨e0, c0, he0, hc0, rfl, hr.flat k e0 j c0 he0 hc0⟩
  refine ⟨g', le, ?_, hv.ren hs'.sub stands⟩
  have objR : ∀ q ob2, nth (freshS S s') q = some (some ob2) → ∃ x, nth g'.obs q = some (some x) ∧ ObR C g' w' ob2 x := by
    intro q ob2 ho2
    rcases cases_S q ob2 ho2 with ⟨hq, hq2⟩ | ⟨i, ob1, rfl, h1, rfl⟩
    · obtain ⟨x, hx, hr⟩ := hs.obj q ob2 hq2
      refine ⟨x, by rw [atfr q hq]; exact hx, ?_⟩
      have hb := hfr _ (frblk q x hx)
      obtain ⟨arr, cap, b1, b2, b3, b4, b5, b7, b6⟩ := hr.blk
      refine { ver := hr.ver, esz := hr.esz, ty := hr.ty, known := hr.known, blk := ⟨arr, cap, by rw [hb.1]; exact b1, b2, b3, b4, b5, b7, fun i e j c he hc => ?_⟩, sz := hr.sz, flat := hr.flat, base := hr.base, nsusp := hr.nsusp, nimm := fun i hi => hr.nimm i (hb.2.1 i hi) }
      obtain ⟨rv, r1, r2, r3⟩ := b6 i e j c he hc
      refine ⟨rv, r1, r2.keeps hs.sub keeps obsle, ⟨fun sz es t hv => ?_, r3.agg⟩⟩
      obtain ⟨q1, ⟨xs, q2⟩, q3, q4⟩ := r3.own sz es t hv
      have own : ∀ b, rv.ownBlock = some b → fr b := fun b hb => by
        refine ownfr q i j b ?_
        subst hv
        exact ⟨ob2, x, e, sz, es, t, rv, hq2, hx, he, hc, cell_of_block b1 r1, hb⟩
      refine ⟨q1, ⟨xs, ownsRow_same q2 fun b hb' => (hfr b (own b hb')).1⟩, fun b hb' => ⟨(q3 b hb').1, fun i hi him => (q3 b hb').2.1 i hi ((hfr b (own b hb')).2.1 i him), fun q' x' hx' hxb => ?_⟩, q4⟩
      rcases cases_obs q' x' hx' with ⟨_, hx2⟩ | ⟨i', _, hx2⟩
      · exact (q3 b hb').2.2 q' x' hx2 hxb
      · exact newns i' x' hx2 (by rw [hxb]; exact own b hb')
    · obtain ⟨x, hx, hr⟩ := hs'.obj i ob1 h1
      refine ⟨x, by rw [atnew i]; exact hx, ?_⟩
      obtain ⟨arr, cap, b1, b2, b3, b4, b5, b7, b6⟩ := hr.blk
      refine { ver := hr.ver, esz := hr.esz, ty := hr.ty, known := hr.known, blk := ⟨arr, cap, b1, b2, b3, b4, by simpa [Ob.ren] using b5, b7, fun k e j c he hc => ?_⟩, sz := fun k e he => ?_, flat := fun k e j c he hc => ?_, base := by have := hr.base; rw [hle.base] at this; exact this, nsusp := fun h => hr.nsusp ((hsusp _).2 (.inl h)), nimm := hr.nimm }
      · obtain ⟨e0, c0, q1, q2, rfl, q4⟩ := cellR hr he hc
        obtain ⟨rv, r1, r2, r3⟩ := b6 k e0 j c0 q1 q2
        refine ⟨rv, r1, r2.renCell hs'.sub stands, ⟨fun sz es t hv => ?_, fun cs hv => ?_⟩⟩
        · have hc0 := renCell_list hv
          obtain ⟨p1, ⟨xs, p2⟩, p3, p4⟩ := r3.own sz es t hc0
          refine ⟨p1, ⟨xs, ?_⟩, fun b hb' => ⟨fun h => (p3 b hb').1 ((hsusp _).2 (.inl h)), (p3 b hb').2.1, fun q' x' hx' hxb => ?_⟩, p4⟩
          · have := p2
            rw [hle.base] at this
            exact this
          · rcases cases_obs q' x' hx' with ⟨a1, hx2⟩ | ⟨i', _, hx2⟩
            · exact (p3 b hb').1 ((hsusp _).2 (.inr (by rw [← hxb]; exact frblk q' x' hx2)))
            · exact (p3 b hb').2.2 i' x' hx2 hxb
        · have := renCell_flat (o := S.length) (n := S.length + 1) c0
          rw [hv] at this
          cases this
      · obtain ⟨e0, he0, rfl⟩ := nth_map_some he
        rw [ren1_cells (hr.cells_flat he0), List.length_map]
        exact hr.sz k e0 he0
      · obtain ⟨e0, c0, q1, q2, rfl, q4⟩ := cellR hr he hc
        exact renCell_flat c0
  have ownR : ∀ q k j b, OwnsAt [] (freshS S s') emptyAct w' g' (.cell q k j) b → OwnsAt [] S emptyAct w g (.cell q k j) b ∨ ∃ i, q = S.length + i ∧ OwnsAt [] s' emptyAct w' g1' (.cell i k j) b := by
    intro q k j b hp
    obtain ⟨ob2, x, el, sz, es, e, rv, h1, h2, h3, h4, h5, h6⟩ := hp
    rcases cases_S q ob2 h1 with ⟨hq, hq2⟩ | ⟨i, ob1, rfl, hi, rfl⟩
    · rw [atfr q hq] at h2
      refine .inl ⟨ob2, x, el, sz, es, e, rv, hq2, h2, h3, h4, ?_, h6⟩
      rw [← h5]
      exact (cell_same (hfr _ (frblk q x h2)).1 _).symm
    · obtain ⟨x1, hx1, hr⟩ := hs'.obj i ob1 hi
      rw [atnew i] at h2
      obtain ⟨e0, c0, q1, q2, q3, q4⟩ := cellR hr h3 h4
      exact .inr ⟨i, rfl, ob1, x, e0, sz, es, e, rv, hi, h2, q1, by rw [q2, renCell_list q3.symm], h5, h6⟩
  have newown : ∀ i k j b, OwnsAt [] s' emptyAct w' g1' (.cell i k j) b → ¬ fr b := by
    intro i k j b hp hf
    obtain ⟨ob1, x, el, sz, es, e, rv, h1, h2, h3, h4, h5, h6⟩ := hp
    obtain ⟨arr, cap, c1, _, _, _, _, _, c6⟩ := (hs'.at_obj h1 h2).blk
    obtain ⟨rv2, r1, r2, r3⟩ := c6 k el j _ h3 h4
    have hrv : rv2 = rv := by
      have := cell_of_block c1 r1
      rw [this] at h5
      exact Option.some.inj h5
    subst hrv
    exact ((r3.own sz es e rfl).2.2.1 _ h6).1 ((hsusp _).2 (.inr hf))
  refine { len := rfl, env := fun t v hv => by simp [nth] at hv, olen := ?_, obj := objR, gone := fun q x hx => ?_, inj := fun q q' x x' hx hx' he => ?_, own := fun p q b hp hq => ?_, sub := hs'.sub, immlt := hs'.immlt,
           basele := by have := hs'.basele; rw [hle.base] at this; exact this, susplt := fun b hb => Nat.lt_of_lt_of_le (hs.susplt b hb) hle.size }
  · rw [hSl]
    show (g.obs ++ g1'.obs).length = _
    rw [List.length_append, hog, hol]
  · rcases cases_obs q x hx with ⟨hq, hx2⟩ | ⟨i, rfl, hx2⟩
    · obtain ⟨ob2, hob2⟩ := hs.gone q x hx2
      refine ⟨ob2, ?_⟩
      simp only [freshS]
      rw [nth_append_lt hq]
      exact hob2
    · obtain ⟨ob1, hob1⟩ := hs'.gone i x hx2
      refine ⟨ob1.ren S.length (S.length + 1), ?_⟩
      simp only [freshS]
      rw [nth_append_ge (by omega), show S.length + i - S.length = i by omega, nth_eq, List.getElem?_map, ← nth_eq, hob1]
      rfl
  · rcases cases_obs q x hx with ⟨hq, hx2⟩ | ⟨i, rfl, hx2⟩
    · rcases cases_obs q' x' hx' with ⟨hq', hx2'⟩ | ⟨i', rfl, hx2'⟩
      · exact hs.inj q q' x x' hx2 hx2' he
      · exact absurd (by rw [← he]; exact frblk q x hx2) (newns i' x' hx2')
    · rcases cases_obs q' x' hx' with ⟨hq', hx2'⟩ | ⟨i', rfl, hx2'⟩
      · exact absurd (by rw [he]; exact frblk q' x' hx2') (newns i x hx2)
      · rw [hs'.inj i i' x x' hx2 hx2' he]
  · cases p with
    | slot t => obtain ⟨sz, es, e, rv, h1, _⟩ := hp; simp [nth] at h1
    | cell q1 k1 j1 =>
      cases q with
      | slot t => obtain ⟨sz, es, e, rv, h1, _⟩ := hq; simp [nth] at h1
      | cell q2 k2 j2 =>
        rcases ownR _ _ _ _ hp with a2 | ⟨i, rfl, a2⟩
        · rcases ownR _ _ _ _ hq with b2 | ⟨i', rfl, b2⟩
          · exact hs.own _ _ b a2 b2
          · exact absurd (ownfr _ _ _ b a2) (newown _ _ _ _ b2)
        · rcases ownR _ _ _ _ hq with b2 | ⟨i', rfl, b2⟩
          · exact absurd (ownfr _ _ _ b b2) (newown _ _ _ _ a2)
          · have := hs'.own _ _ b a2 b2
            injection this with h1 h2 h3
            rw [h1, h2, h3]

/-- A function by its body, that sees no object. -/
theorem fresh_body (hC : Ok P C) {Φ : Callee} (hΦ : CalleeOk P C Φ) {Λ : Looper} {f : FuncId} {fn : Func} {c : Code} (hf : P.funcs[f]? = some fn) (hb : fn.body = some c)
    (hn : (fn.name == "runtime.NumGoroutine") = false) (hl : LoopsOk P C Λ c []) (hm : C.mode f = .shared) {R : Type} {l : List V} {s : S} {K : V → S → Option R} {r : R} (hl2 : l.all V.noRef = true)
    (h : bodyV C Φ Λ f fn l [] (fun v s' => K (v.ren s.length (s.length + 1)) (freshS s s')) = some r) : ∃ v s', K v s' = some r ∧ SharedAt P C f l s v s' := by
  obtain ⟨v, s', h1, h2⟩ := body_shared hC hΦ hf hb hn hl hm h
  exact ⟨_, _, h1, h2.frame0 hl2⟩

end
end Go.VM
