/- Values told with other numbers of objects. -/
import Derived.Test.YtkchbabkbpcncaaVmPa
set_option linter.unusedSimpArgs false
set_option linter.unusedVariables false
namespace Go.VM
open Go.RowKit Go.Lib
theorem Zbz {es:List V} (h:Zaw es = true):∀ i e j c,nth es i = some e → nth e.cells j = some c → ZbK c = true:=by
 intro i e j c he hc
 have h1:=List.all_eq_true.1 h e (List.mem_of_getElem? (by rw [← Zad]; exact he))
 exact List.all_eq_true.1 h1 c (List.mem_of_getElem? (by rw [← Zad]; exact hc))
section
variable {P:Program} {C:Cfg} {g g1:G} {w:World}
theorem DR.to (hs:Sub g) (h1:∀ b i,g.imm b i → g1.imm b i) (h2:∀ b i,g.safe b i → g1.safe b i) {l:Bool} {v:V} {rv:Value} (h:DR g w l v rv):DR g1 w l v rv :=
 h.keeps (g':=g1) hs ⟨h1,h2,fun _ _ _=>rfl⟩
end
structure StandsF (g g1:G) (f:Nat → Option Nat):Prop where
 imm:∀ b i,g.imm b i → g1.imm b i
 safe:∀ b i,g.safe b i → g1.safe b i
 at_:∀ i i',i < g.obs.length → f i = some i' → i' < g1.obs.length ∧ nth g1.obs i' = nth g.obs i
section
variable {P:Program} {C:Cfg} {g g1:G} {w:World} {f:Nat → Option Nat}
theorem VR.rho0 (hs:Sub g) (hst:StandsF g g1 f) {v:V} {rv:Value} (h:VR g w v rv):VR g1 w (Go.VM.rho0 f v) rv:=by
 have dat:∀ v rv,DR g w false v rv → VR g1 w (Go.VM.rho0 f v) rv:=by
  intro v rv h
  cases h with
  | bool b=>exact .data (.bool b)
  | int k m=>exact .data (.int k m)
  | str s=>exact .data (.str s)
  | nilp=>exact .data .nilp
  | nilf=>exact .data .nilf
  | nili=>exact .data .nili
  | nils=>exact .data .nils
  | fn f=>exact .data (.fn f)
  | agg cs vs hl h=>exact .dead _
  | tuple cs vs hl h=>exact .dead _
  | list esz es f A m c b off cv hn hc hl hA hsz hf ho hw hd=>exact .data ((DR.list esz es f A m c b off cv hn hc hl hA hsz hf ho hw hd).to hs hst.imm hst.safe)
 cases h with
 | data h=>exact dat _ _ h
 | ptr i ver a b ad hi h =>
  simp only [Go.VM.rho0]
  cases hf:f i with
  | none=>exact .dead _
  | some i' =>
   obtain ⟨h1,h2⟩:=hst.at_ i i' hi hf
   exact .ptr _ ver a b ad h1 fun x hx=>h x (h2.symm.trans hx)
 | arr i ver off len A c hc hi h =>
  simp only [Go.VM.rho0]
  cases hf:f i with
  | none=>exact .dead _
  | some i' =>
   obtain ⟨h1,h2⟩:=hst.at_ i i' hi hf
   exact .arr _ ver off len A c hc h1 fun x hx=>h x (h2.symm.trans hx)
 | cptr cs b off cv ho hw hd=>exact .dead _
 | agg cs vs hl h=>exact .dead _
 | tuple cs vs hl h=>exact .dead _
 | fn k cs vs hl h =>
  cases cs with
  | nil =>
   obtain rfl:vs = []:=List.eq_nil_of_length_eq_zero (by simpa using hl.symm)
   exact .fn k [] [] rfl fun i c v h1=>by simp [nth] at h1
  | cons=>exact .dead _
 | uni t sz es A n c=>exact .uni t sz es A n c
 | dead rv=>exact .dead _
theorem VR.rhoC (hs:Sub g) (hst:StandsF g g1 f) {v:V} {rv:Value} (h:VR g w v rv):VR g1 w (Go.VM.rhoC f v) rv:=by
 by_cases hfn:∃ k caps,v = .fn k caps
 ·obtain ⟨k,caps,rfl⟩:=hfn
  obtain ⟨vs,rfl,hl,hc⟩:=h.fn_inv
  refine .fn k _ vs (by simp [hl]) fun i c u q1 q2=>?_
  obtain ⟨c0,hc0,rfl⟩:=Zac q1
  exact (hc i c0 u hc0 q2).rho0 hs hst
 ·have:Go.VM.rhoC f v = Go.VM.rho0 f v:=by
   cases v <;> first | rfl | exact absurd ⟨_,_,rfl⟩ hfn
  rw [this]
  exact h.rho0 hs hst
theorem VR.rho1 (hs:Sub g) (hst:StandsF g g1 f) {v:V} {rv:Value} (h:VR g w v rv):VR g1 w (Go.VM.rho1 f v) rv:=by
 by_cases hag:∃ cs,v = .agg cs
 ·obtain ⟨cs,rfl⟩:=hag
  obtain ⟨vs,rfl,hl,hc⟩:=h.agg_inv
  refine .agg _ vs (by simp [hl]) fun i c u q1 q2=>?_
  obtain ⟨c0,hc0,rfl⟩:=Zac q1
  exact (hc i c0 u hc0 q2).rhoC hs hst
 ·have:Go.VM.rho1 f v = Go.VM.rhoC f v:=by
   cases v <;> first | rfl | exact absurd ⟨_,rfl⟩ hag
  rw [this]
  exact h.rhoC hs hst
theorem VR.rho (hs:Sub g) (hst:StandsF g g1 f) {v:V} {rv:Value} (h:VR g w v rv):VR g1 w (v.rho f) rv:=by
 by_cases hag:∃ cs,v = .tuple cs
 ·obtain ⟨cs,rfl⟩:=hag
  obtain ⟨vs,rfl,hl,hc⟩:=h.tuple_inv
  refine .tuple _ vs (by simp [hl]) fun i c u q1 q2=>?_
  obtain ⟨c0,hc0,rfl⟩:=Zac q1
  exact (hc i c0 u hc0 q2).rho1 hs hst
 ·have:v.rho f = Go.VM.rho1 f v:=by
   cases v <;> first | rfl | exact absurd ⟨_,rfl⟩ hag
  rw [this]
  exact h.rho1 hs hst
theorem Zqy {v:V} {sz:Nat} {es:List V} {l:Fl} (h:rho0 f v = .list sz es l):v = .list sz es l:=by
 cases v <;> simp only [rho0] at h <;> first | exact h | (cases h; done) | (split at h <;> cases h)
theorem ZgI {v:V} {sz:Nat} {es:List V} {l:Fl} (h:rhoC f v = .list sz es l):v = .list sz es l:=by
 cases v <;> simp only [rhoC] at h <;> first | exact Zqy h | cases h
theorem Zqo {v:V} {sz:Nat} {es:List V} {l:Fl} (h:rho1 f v = .list sz es l):v = .list sz es l:=by
 cases v <;> simp only [rho1] at h <;> first | exact ZgI h | cases h
theorem Zrc (v:V):(rho0 f v).flatCell = true:=by
 cases v <;> simp only [rho0] <;> first | rfl | (split <;> rfl)
theorem Zc5 (v:V):(rhoC f v).flatCell = true:=by
 cases v <;> simp only [rhoC] <;> first | rfl | exact Zrc _
theorem Zod {v:V} {t sz:Nat} {es:List V} (h:rho0 f v = .uni t sz es):v = .uni t sz es:=by
 cases v <;> simp only [rho0] at h <;> first | exact h | (cases h; done) | (split at h <;> cases h)
theorem Ziy {v:V} {t sz:Nat} {es:List V} (h:rhoC f v = .uni t sz es):v = .uni t sz es:=by
 cases v <;> first | exact Zod (f:=f) h | (simp only [rhoC] at h; exact Zod h) | (cases h; done) | (cases h; rfl)
theorem ZtA {v:V} {t sz:Nat} {es:List V} (h:rho1 f v = .uni t sz es):v = .uni t sz es:=by
 cases v <;> first | exact Ziy (f:=f) h | (simp only [rho1] at h; exact Ziy h) | (cases h; done) | (cases h; rfl)
theorem Zfx {v:V} (hv:v.flatCell = true ∨ ∃ cs,v = .agg cs):(rho1 f v).cells = v.cells.map (rhoC f):=by
 cases v with
 | agg cs=>rfl
 | tuple vs=>rcases hv with h | ⟨cs,h⟩ <;> cases h
 | arr o ver off len=>simp only [rho1,rhoC,rho0]; split <;> simp [V.cells,rhoC,rho0, *]
 | ptr o ver i j=>simp only [rho1,rhoC,rho0]; split <;> simp [V.cells,rhoC,rho0, *]
 | _=>rfl
theorem ZgA {v:V} (h:v.still):(v.rho f).still:=by
 refine ⟨fun sz es e hv=>?_,fun cs hv i sz es e hc=>?_,fun t sz es hv=>?_⟩
 rotate_right
 ·by_cases ht:∃ vs,v = .tuple vs
  ·obtain ⟨vs,rfl⟩:=ht
   cases hv
  ·have:v.rho f = Go.VM.rho1 f v:=by
    cases v <;> first | rfl | exact absurd ⟨_,rfl⟩ ht
   rw [this] at hv
   exact h.2.2 t sz es (ZtA hv)
 ·by_cases ht:∃ vs,v = .tuple vs
  ·obtain ⟨vs,rfl⟩:=ht
   cases hv
  ·have:v.rho f = Go.VM.rho1 f v:=by
    cases v <;> first | rfl | exact absurd ⟨_,rfl⟩ ht
   rw [this] at hv
   exact h.1 sz es e (Zqo hv)
 ·by_cases ht:∃ vs,v = .tuple vs
  ·obtain ⟨vs,rfl⟩:=ht
   cases hv
  ·have e1:v.rho f = Go.VM.rho1 f v:=by
    cases v <;> first | rfl | exact absurd ⟨_,rfl⟩ ht
   rw [e1] at hv
   by_cases hag:∃ cs0,v = .agg cs0
   ·obtain ⟨cs0,rfl⟩:=hag
    simp only [Go.VM.rho1,V.agg.injEq] at hv
    subst hv
    obtain ⟨c0,hc0,hc1⟩:=Zac hc
    exact h.2.1 cs0 rfl i sz es e (by rw [← ZgI hc1]; exact hc0)
   ·have e2:Go.VM.rho1 f v = Go.VM.rhoC f v:=by
     cases v <;> first | rfl | exact absurd ⟨_,rfl⟩ hag
    rw [e2] at hv
    have:=Zc5 (f:=f) v
    rw [hv] at this
    cases this
theorem Zd1 {v:V} (h:ZbK v = true):rhoC f v = v:=by
 cases v <;> first | rfl | (cases h; done) | skip
 rename_i k caps
 cases caps with
 | nil=>rfl
 | cons=>cases h
theorem ZvN {ob:Ob} (h:Zaw ob.es = true) (hf:∀ i e,nth ob.es i = some e → e.flatCell = true ∨ ∃ cs,e = .agg cs):ob.rho f = ob:=by
 unfold Ob.rho
 have:ob.es.map (Go.VM.rho1 f) = ob.es:=by
  apply List.ext_getElem?
  intro i
  rw [List.getElem?_map]
  cases he:ob.es[i]? with
  | none=>rfl
  | some e =>
   have he':nth ob.es i = some e:=by rw [Zad]; exact he
   show some _ = some _
   congr 1
   rcases hf i e he' with h1 | ⟨cs,rfl⟩
   ·have hc:nth e.cells 0 = some e:=by
     cases e <;> first | rfl | (cases h1; done)
    have h2:=Zbz h i e 0 e he' hc
    have:Go.VM.rho1 f e = Go.VM.rhoC f e:=by cases e <;> first | rfl | (cases h1; done)
    rw [this,Zd1 h2]
   ·show V.agg _ = V.agg _
    congr 1
    apply List.ext_getElem?
    intro j
    rw [List.getElem?_map]
    cases hj:cs[j]? with
    | none=>rfl
    | some c =>
     have:=Zbz h i _ j c he' (by show nth cs j = some c; rw [Zad]; exact hj)
     show some _ = some _
     rw [Zd1 this]
 rw [this]
end
section
variable {P:Program} {C:Cfg} {g g':G} {w w':World} {f:Nat → Option Nat}
theorem ObR.cells_flat {ob:Ob} {x:OX} (hr:ObR C g w ob x) {i:Nat} {e:V} (he:nth ob.es i = some e):e.flatCell = true ∨ ∃ cs,e = .agg cs:=by
 by_cases hag:∃ cs,e = .agg cs
 ·exact .inr hag
 ·have hce:e.cells = [e]:=ZaH fun cs hc=>hag ⟨cs,hc⟩
  exact .inl (hr.flat i e 0 e he (by rw [hce]; rfl))
theorem Zdx {c:V} (h:(rhoC f c).owns):c.owns ∧ rhoC f c = c:=by
 rcases h with ⟨sz,es,e,hv⟩ | ⟨t,sz,es,hv⟩
 ·have:=ZgI hv
  exact ⟨.inl ⟨sz,es,e,this⟩,by rw [hv,this]⟩
 ·have:=Ziy hv
  exact ⟨.inr ⟨t,sz,es,this⟩,by rw [hv,this]⟩
theorem OwnOk.rhoC {c:V} {rv:Value} (hflat:c.flatCell = true) (h:OwnOk C g w c rv) (hbase:g'.base = g.base) (hb:c.owns → ∀ b,c.blockOf rv = some b → OwnSide g g' w w' b):OwnOk C g' w' (Go.VM.rhoC f c) rv:=by
 by_cases ho:(Go.VM.rhoC f c).owns
 ·obtain ⟨h1,h2⟩:=Zdx ho
  rw [h2]
  exact h.side hbase hb
 ·refine ⟨fun sz es e hv=>absurd (.inl ⟨sz,es,e,hv⟩) ho,fun cs hv=>?_,fun t sz es hv=>absurd (.inr ⟨t,sz,es,hv⟩) ho⟩
  have:=Zc5 (f:=f) c
  rw [hv] at this
  cases this
theorem Zd5 {ob:Ob} {x:OX} (hr:ObR C g w ob x) {k j:Nat} {e c:V} (he:nth (ob.rho f).es k = some e) (hc:nth e.cells j = some c):∃ e0 c0,nth ob.es k = some e0 ∧ nth e0.cells j = some c0 ∧ c = Go.VM.rhoC f c0 ∧ c0.flatCell = true:=by
 obtain ⟨e0,he0,rfl⟩:=Zac he
 rw [Zfx (hr.cells_flat he0)] at hc
 obtain ⟨c0,hc0,rfl⟩:=Zac hc
 exact ⟨e0,c0,he0,hc0,rfl,hr.flat k e0 j c0 he0 hc0⟩
theorem ObR.rho {ob:Ob} {x:OX} (hr:ObR C g w ob x) (hs:Sub g) (hst:StandsF g g' f) (hbase:g'.base = g.base) (hn:0 < x.2.2.2.1 → ¬ g'.susp x.2.1) (himm:0 < x.2.2.2.1 → ∀ i,¬ g'.imm x.2.1 i)
  (hb:∀ i e j c rv b,nth ob.es i = some e → nth e.cells j = some c → c.owns → w.cell? ⟨x.2.1,(x.2.2.2.2 + i) * ob.esz + j,none⟩ = some rv → c.blockOf rv = some b → OwnSide g g' w w b):ObR C g' w (ob.rho f) x:=by
 obtain ⟨arr,cap,b1,b2,b3,b4,b5,b7,b6⟩:=hr.blk
 refine { ver:=hr.ver,esz:=hr.esz,ty:=hr.ty,known:=hr.known,blk:=⟨arr,cap,b1,b2,b3,b4,by simpa [Ob.rho] using b5,b7,fun k e j c he hc=>?_⟩,sz:=fun k e he=>?_,flat:=fun k e j c he hc=>?_,base:=fun hp=>by rw [hbase]; exact hr.base hp,nsusp:=hn,nimm:=himm }
 ·obtain ⟨e0,c0,q1,q2,rfl,q4⟩:=Zd5 hr he hc
  obtain ⟨rv,r1,r2,r3⟩:=b6 k e0 j c0 q1 q2
  exact ⟨rv,r1,r2.rhoC hs hst,r3.rhoC q4 hbase fun ho b hb'=>hb k e0 j c0 rv b q1 q2 ho (Zap (b1 (hr.real q1 q2)) r1) hb'⟩
 ·obtain ⟨e0,he0,rfl⟩:=Zac he
  rw [Zfx (hr.cells_flat he0),List.length_map]
  exact hr.sz k e0 he0
 ·obtain ⟨e0,c0,q1,q2,rfl,q4⟩:=Zd5 hr he hc
  exact Zc5 c0
end
theorem Zi4 {f:Nat → Option Nat} {ob:Ob} (h:Zaw ob.es = true):ob.rho f = ob:=by
 refine ZvN h fun i e he=>?_
 cases e with
 | agg cs=>exact .inr ⟨cs,rfl⟩
 | tuple vs=>have:=Zbz h i _ 0 _ he rfl; cases this
 | _=>exact .inl rfl
section
variable {P:Program} {C:Cfg} {g g':G} {w w':World} {f:Nat → Option Nat}
theorem UniOk.down {t:TypeId} {sz:Nat} {es:List V} {rv:Value} (h:UniOk C g w t sz es rv) (hbase:g'.base ≤ g.base)
  (hs:∀ b,Za0 rv = some b → ¬ g'.susp b ∧ (∀ i,¬ g'.imm b i) ∧ ∀ o x,nth g'.obs o = some (some x) → 0 < x.2.2.2.1 → x.2.1 ≠ b):UniOk C g' w t sz es rv where
 known:=h.known
 size:=h.size
 esz:=h.esz
 scal:=h.scal
 row:=by
  rcases h.row with h1 | ⟨blk,bo,cap,c,cur,q1,q2,q3,q4⟩
  ·exact .inl h1
  ·exact .inr ⟨blk,bo,cap,c,cur,q1,Nat.le_trans hbase q2,q3,q4⟩
 blk:=hs
theorem ZjJ {base base':Nat} {e:TypeId} {size n:Nat} {v:Value} {xs:List Value} (h:w.ownsRow base e size v n xs) (hb:base' ≤ base):w.ownsRow base' e size v n xs:=by
 obtain ⟨h1,h2⟩:=h
 refine ⟨h1,?_⟩
 rcases h2 with h2 | ⟨gb,cap,cur,hv,hg,r⟩
 ·exact .inl h2
 ·exact .inr ⟨gb,cap,cur,hv,Nat.le_trans hb hg,r⟩
theorem OwnOk.down {v:V} {rv:Value} (h:OwnOk C g w v rv) (hbase:g'.base ≤ g.base) (hb:v.owns → ∀ b,v.blockOf rv = some b → OwnSide g g' w w b):OwnOk C g' w v rv:=by
 refine ⟨fun sz es e hv=>?_,h.agg,fun t sz es hv=>?_⟩
 ·obtain ⟨h1,⟨xs,h2⟩,h3,h4⟩:=h.own sz es e hv
  have hb:=hb (.inl ⟨sz,es,e,hv⟩)
  subst hv
  refine ⟨h1,⟨xs,ZjJ h2 hbase⟩,fun b hb'=>?_,h4⟩
  obtain ⟨q1,q2,q3⟩:=h3 b hb'
  refine ⟨fun hc=>q1 ((hb b hb').susp hc),fun i hi hc=>q2 i hi ((hb b hb').imm i hc),fun o x hx hp hc=>?_⟩
  obtain ⟨o',ho'⟩:=(hb b hb').obs o x hx hp hc
  exact q3 o' x ho' hp hc
 ·have hb:=hb (.inr ⟨t,sz,es,hv⟩)
  have h1:=h.uni t sz es hv
  subst hv
  refine h1.down hbase fun b hb'=>?_
  obtain ⟨q1,q2,q3⟩:=h1.blk b hb'
  refine ⟨fun hc=>q1 ((hb b hb').susp hc),fun i hc=>q2 i ((hb b hb').imm i hc),fun o x hx hp hc=>?_⟩
  obtain ⟨o',ho'⟩:=(hb b hb').obs o x hx hp hc
  exact q3 o' x ho' hp hc
theorem Zt5 {c:V} {rv:Value} (hf:firmC c = true) (hk:∀ b i,g.safe b i → g'.safe b i) (h:DR g w false c rv):DR g' w false c rv:=by
 have key:DR g w true c rv → DR g' w false c rv:=fun h=>(DR.safely hk (fun _ _ _=>rfl) h).lower
 cases h with
 | bool b=>exact .bool b
 | int k n=>exact .int k n
 | str s=>exact .str s
 | nilp=>exact .nilp
 | nilf=>exact .nilf
 | nili=>exact .nili
 | nils=>exact .nils
 | fn f=>exact .fn f
 | agg cs vs hl h=>cases hf
 | tuple cs vs hl h=>cases hf
 | list esz es f A n c b off cv hn hc hl hA hsz hf2 ho hw hd =>
  have hne:f ≠ .bor:=fun h=>by subst h; cases hf
  exact key (.list esz es f A n c b off cv hn hc (fun h=>absurd h hne) hA hsz hf2 ho hw hd)
structure Firms (g g':G) (f:Nat → Option Nat):Prop where
 safe:∀ b i,g.safe b i → g'.safe b i
 at_:∀ i i',i < g.obs.length → f i = some i' → i' < g'.obs.length ∧ nth g'.obs i' = nth g.obs i
theorem VR.firm0 (hst:Firms g g' f) {v:V} {rv:Value} (hf:firmC v = true) (h:VR g w v rv):VR g' w (Go.VM.rho0 f v) rv:=by
 cases h with
 | data h =>
  have h':=Zt5 (g':=g') hf hst.safe h
  cases v <;> first | exact .data h' | (cases h; done) | (cases hf; done) | skip
  cases h; exact .data (.fn _)
 | ptr i ver a b ad hi h =>
  simp only [Go.VM.rho0]
  cases hf:f i with
  | none=>exact .dead _
  | some i' =>
   obtain ⟨h1,h2⟩:=hst.at_ i i' hi hf
   exact .ptr _ ver a b ad h1 fun x hx=>h x (h2.symm.trans hx)
 | arr i ver off len A c hc hi h =>
  simp only [Go.VM.rho0]
  cases hf:f i with
  | none=>exact .dead _
  | some i' =>
   obtain ⟨h1,h2⟩:=hst.at_ i i' hi hf
   exact .arr _ ver off len A c hc h1 fun x hx=>h x (h2.symm.trans hx)
 | cptr cs b off cv ho hw hd=>exact .dead _
 | agg cs vs hl h=>exact .dead _
 | tuple cs vs hl h=>exact .dead _
 | fn k cs vs hl h =>
  cases cs with
  | nil =>
   obtain rfl:vs = []:=List.eq_nil_of_length_eq_zero (by simpa using hl.symm)
   exact .fn k [] [] rfl fun i c v h1=>by simp [nth] at h1
  | cons=>exact .dead _
 | uni t sz es A n c=>exact .uni t sz es A n c
 | dead rv=>exact .dead _
theorem VR.firmC (hst:Firms g g' f) {v:V} {rv:Value} (hf:Go.VM.firmC v = true) (h:VR g w v rv):VR g' w (Go.VM.rhoC f v) rv:=by
 cases v <;> first | exact VR.firm0 (f:=f) hst hf h | skip
 rename_i k caps
 cases caps with
 | cons=>cases hf
 | nil =>
  obtain ⟨vs,rfl,hl,hc⟩:=h.fn_inv
  exact .fn k _ vs (by simpa using hl) fun i c v h1=>by simp [nth] at h1
theorem VR.firm1 (hst:Firms g g' f) {v:V} {rv:Value} (hf:Go.VM.firm1 v = true) (h:VR g w v rv):VR g' w (Go.VM.rho1 f v) rv:=by
 by_cases hag:∃ cs,v = .agg cs
 ·obtain ⟨cs,rfl⟩:=hag
  obtain ⟨vs,rfl,hl,hc⟩:=h.agg_inv
  refine .agg _ vs (by simp [hl]) fun i c u q1 q2=>?_
  obtain ⟨c0,hc0,rfl⟩:=Zac q1
  exact (hc i c0 u hc0 q2).firmC hst (List.all_eq_true.1 hf c0 (List.mem_of_getElem? (by rw [← Zad]; exact hc0)))
 ·have e1:Go.VM.rho1 f v = Go.VM.rhoC f v:=by cases v <;> first | rfl | exact absurd ⟨_,rfl⟩ hag
  have e2:Go.VM.firm1 v = Go.VM.firmC v:=by cases v <;> first | rfl | exact absurd ⟨_,rfl⟩ hag
  rw [e1]
  rw [e2] at hf
  exact h.firmC hst hf
theorem VR.firm (hst:Firms g g' f) {v:V} {rv:Value} (hf:v.firm = true) (h:VR g w v rv):VR g' w (v.rho f) rv:=by
 by_cases hag:∃ vs,v = .tuple vs
 ·obtain ⟨cs,rfl⟩:=hag
  obtain ⟨vs,rfl,hl,hc⟩:=h.tuple_inv
  refine .tuple _ vs (by simp [hl]) fun i c u q1 q2=>?_
  obtain ⟨c0,hc0,rfl⟩:=Zac q1
  exact (hc i c0 u hc0 q2).firm1 hst (List.all_eq_true.1 hf c0 (List.mem_of_getElem? (by rw [← Zad]; exact hc0)))
 ·have e1:v.rho f = Go.VM.rho1 f v:=by cases v <;> first | rfl | exact absurd ⟨_,rfl⟩ hag
  have e2:v.firm = Go.VM.firm1 v:=by cases v <;> first | rfl | exact absurd ⟨_,rfl⟩ hag
  rw [e1]
  rw [e2] at hf
  exact h.firm1 hst hf
theorem Zpu {e c:V} {j:Nat} (h:Go.VM.firm1 e = true) (hc:nth e.cells j = some c):Go.VM.firmC c = true:=by
 by_cases hag:∃ cs,e = .agg cs
 ·obtain ⟨cs,rfl⟩:=hag
  exact List.all_eq_true.1 h c (List.mem_of_getElem? (by rw [← Zad]; exact hc))
 ·have e1:e.cells = [e]:=ZaH fun cs hc=>hag ⟨cs,hc⟩
  have e2:Go.VM.firm1 e = Go.VM.firmC e:=by cases e <;> first | rfl | exact absurd ⟨_,rfl⟩ hag
  rw [e1] at hc
  cases j with
  | zero=>simp only [nth] at hc; obtain rfl:=Option.some.inj hc; rw [← e2]; exact h
  | succ j=>simp [nth] at hc
theorem Zkn {f:Nat → Option Nat} {rl:TypeId → Bool}:∀ {s:S},(∀ o ob,nth s o = some (some ob) → rl ob.elem = true → Zaw ob.es = true) → ZtL f s (Zg5 rl s) = s.map (Option.map (Ob.rho f))
 | [],_=>rfl
 | x :: s,h=>by
  have ih:=Zkn (f:=f) (rl:=rl) (s:=s) fun o ob ho=>h (o + 1) ob ho
  unfold Zg5 at ih ⊢
  simp only [List.map_cons,ZtL]
  rw [ih]
  congr 1
  cases x with
  | none=>rfl
  | some ob =>
   simp only [Option.map_some]
   cases hr:rl ob.elem with
   | false=>rfl
   | true =>
    show some ob = some (ob.rho f)
    rw [Zi4 (h 0 ob rfl hr)]
end
end Go.VM
