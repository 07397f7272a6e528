/- How a plain value stands for a value of the model's machine in a world, and that it goes on to stand for it while only other memory is written. -/
import Derived.Test.YtkchbabkbpcncaaVmA
import Derived.Laws.AppendOwn
import Derived.Below
namespace Go.VM
open Go.RowKit
abbrev OX:=Nat × Nat × Nat × Nat × Nat
structure G where
 base:Nat
 imm:Nat → Nat → Prop
 safe:Nat → Nat → Prop
 susp:Nat → Prop
 obs:List (Option (OX))
def okc (g:G) (l:Bool) (b i:Nat):Prop:=if l then g.safe b i else g.imm b i
def Fl.lv:Fl → Bool
 | .bor=>false
 | _=>true
inductive DR (g:G) (w:World):Bool → V → Value → Prop
 | bool {l} (b:Bool):DR g w l (.bool b) (.bool b)
 | int {l} (k:IntKind) (n:Int):DR g w l (.int k n) (.int k n)
 | str {l} (s:ByteArray):DR g w l (.str s) (.string s)
 | nilp {l}:DR g w l .nilp (.pointer none)
 | nilf {l}:DR g w l .nilf .nilFunc
 | nili {l}:DR g w l .nili .nilIface
 | nils {l}:DR g w l .nils (.slice none 0 0)
 | fn {l} (f:FuncId):DR g w l (.fn f []) (.func (.func f) #[] #[])
 | agg {l} (cs:List V) (vs:List Value) (hl:cs.length = vs.length) (h:∀ i c v,nth cs i = some c → nth vs i = some v → DR g w l c v):DR g w l (.agg cs) (.agg vs.toArray)
 | tuple {l} (cs:List V) (vs:List Value) (hl:cs.length = vs.length) (h:∀ i c v,nth cs i = some c → nth vs i = some v → DR g w l c v):DR g w l (.tuple cs) (.tuple vs.toArray)
 | list {l} (esz:Nat) (es:List V) (f:Fl) (A:Option Addr) (n c b off:Nat) (cv:Nat → Nat → Value) (hn:n = es.length) (hc:n ≤ c) (hl:f = .bor → l = false)
   (hA:es = [] ∨ A = some ⟨b,off,none⟩)
   (hs:∀ i e,nth es i = some e → e.cells.length = esz)
   (hf:∀ i e j x,nth es i = some e → nth e.cells j = some x → x.flatCell = true)
   (ho:∀ i e j x,nth es i = some e → nth e.cells j = some x → okc g f.lv b (off + i * esz + j))
   (hw:∀ i e j x,nth es i = some e → nth e.cells j = some x → w.cell? ⟨b,off + i * esz + j,none⟩ = some (cv i j))
   (hd:∀ i e j x,nth es i = some e → nth e.cells j = some x → DR g w f.lv x (cv i j)):DR g w l (.list esz es f) (.slice A n c)
theorem Zad {α:Type} (l:List α) (n:Nat):nth l n = l[n]?:=by
 induction l generalizing n with
 | nil=>simp [nth]
 | cons a l ih=>cases n <;> simp [nth,ih]
theorem ZaM {α:Type} (l:List α) (n:Nat) (a:α):Zai l n a = l.set n a:=by
 induction l generalizing n with
 | nil=>simp [Zai]
 | cons b l ih=>cases n <;> simp [Zai,ih]
structure Keeps (g:G) (w:World) (g':G) (w':World):Prop where
 imm:∀ b i,g.imm b i → g'.imm b i
 safe:∀ b i,g.safe b i → g'.safe b i
 cell:∀ b i,g.imm b i → w'.cell? ⟨b,i,none⟩ = w.cell? ⟨b,i,none⟩
theorem Keeps.refl (g:G) (w:World):Keeps g w g w:=⟨fun _ _ h=>h,fun _ _ h=>h,fun _ _ _=>rfl⟩
theorem Keeps.trans {g1 g2 g3:G} {w1 w2 w3:World} (h:Keeps g1 w1 g2 w2) (k:Keeps g2 w2 g3 w3):Keeps g1 w1 g3 w3 :=
 ⟨fun b i x=>k.imm b i (h.imm b i x),fun b i x=>k.safe b i (h.safe b i x),fun b i x=>(k.cell b i (h.imm b i x)).trans (h.cell b i x)⟩
def Sub (g:G):Prop:=∀ b i,g.safe b i → g.imm b i
theorem Zlg {g:G} (hs:Sub g) {l:Bool} {b i:Nat} (h:okc g l b i):g.imm b i:=by
 cases l with
 | true=>exact hs _ _ (by simpa [okc] using h)
 | false=>simpa [okc] using h
theorem Keeps.okc {g g':G} {w w':World} (h:Keeps g w g' w') {l:Bool} {b i:Nat} (k:okc g l b i):okc g' l b i:=by
 cases l with
 | true=>exact h.safe _ _ k
 | false=>exact h.imm _ _ k
theorem DR.keeps {g g':G} {w w':World} (hs:Sub g) (hk:Keeps g w g' w') {l:Bool} {v:V} {rv:Value} (h:DR g w l v rv):DR g' w' l v rv:=by
 induction h with
 | bool b=>exact .bool b
 | int k n=>exact .int k n
 | str s=>exact .str s
 | nilp=>exact .nilp
 | nilf=>exact .nilf
 | nili=>exact .nili
 | nils=>exact .nils
 | fn f=>exact .fn f
 | agg cs vs hl h ih=>exact .agg cs vs hl ih
 | tuple cs vs hl h ih=>exact .tuple cs vs hl ih
 | list esz es f A n c b off cv hn hc hl hA hsz hf ho hw hd ih =>
  exact .list esz es f A n c b off cv hn hc hl hA hsz hf (fun i e j x h1 h2=>hk.okc (ho i e j x h1 h2))
   (fun i e j x h1 h2=>(hk.cell _ _ (Zlg hs (ho i e j x h1 h2))).trans (hw i e j x h1 h2)) ih
theorem DR.lower {g:G} {w:World} {v:V} {rv:Value} (h:DR g w true v rv):DR g w false v rv:=by
 generalize hl:true = l at h
 induction h with
 | bool b=>exact .bool b
 | int k n=>exact .int k n
 | str s=>exact .str s
 | nilp=>exact .nilp
 | nilf=>exact .nilf
 | nili=>exact .nili
 | nils=>exact .nils
 | fn f=>exact .fn f
 | agg cs vs hn h ih=>exact .agg cs vs hn fun i c v h1 h2=>ih i c v h1 h2 hl
 | tuple cs vs hn h ih=>exact .tuple cs vs hn fun i c v h1 h2=>ih i c v h1 h2 hl
 | list esz es f A n c b off cv hn hc hl' hA hsz hf ho hw hd ih=>exact .list esz es f A n c b off cv hn hc (fun _=>rfl) hA hsz hf ho hw hd
theorem DR.safely {g g':G} {w w':World} (hk:∀ b i,g.safe b i → g'.safe b i) (hc:∀ b i,g.safe b i → w'.cell? ⟨b,i,none⟩ = w.cell? ⟨b,i,none⟩)
  {v:V} {rv:Value} (h:DR g w true v rv):DR g' w' true v rv:=by
 generalize hl:true = l at h
 induction h with
 | bool b=>exact .bool b
 | int k n=>exact .int k n
 | str s=>exact .str s
 | nilp=>exact .nilp
 | nilf=>exact .nilf
 | nili=>exact .nili
 | nils=>exact .nils
 | fn f=>exact .fn f
 | agg cs vs hn h ih=>exact .agg cs vs hn fun i c v h1 h2=>ih i c v h1 h2 hl
 | tuple cs vs hn h ih=>exact .tuple cs vs hn fun i c v h1 h2=>ih i c v h1 h2 hl
 | list esz es f A n c b off cv hn hc2 hl' hA hsz hf2 ho hw hd ih =>
  subst hl
  have hf:f.lv = true:=by cases f <;> first | rfl | exact absurd (hl' rfl) (by simp)
  exact .list esz es f A n c b off cv hn hc2 hl' hA hsz hf2 (fun i e j x h1 h2=>by have:=ho i e j x h1 h2; rw [hf] at this ⊢; exact hk _ _ this)
   (fun i e j x h1 h2=>(hc _ _ (by have:=ho i e j x h1 h2; rw [hf] at this; exact this)).trans (hw i e j x h1 h2))
   (fun i e j x h1 h2=>ih i e j x h1 h2 hf.symm)
inductive VR (g:G) (w:World):V → Value → Prop
 | data {v:V} {rv:Value} (h:DR g w false v rv):VR g w v rv
 | ptr (o ver i j:Nat) (a:Addr) (ho:o < g.obs.length)
   (h:∀ x,nth g.obs o = some (some x) → ver ≤ x.1 ∧ (ver = x.1 → a = ⟨x.2.1,(x.2.2.2.2 + i) * x.2.2.1 + j,none⟩)):VR g w (.ptr o ver i j) (.pointer (some a))
 | arr (o ver off len:Nat) (A:Option Addr) (c:Nat) (hc:len ≤ c) (ho:o < g.obs.length)
   (h:∀ x,nth g.obs o = some (some x) → ver ≤ x.1 ∧ (ver = x.1 → (c = 0 ∨ A = some ⟨x.2.1,(x.2.2.2.2 + off) * x.2.2.1,none⟩) ∧ (x.2.2.2.2 + off + c) * x.2.2.1 ≤ x.2.2.2.1)):VR g w (.arr o ver off len) (.slice A len c)
 | cptr (cs:List V) (b off:Nat) (cv:Nat → Value) (ho:∀ j x,nth cs j = some x → g.imm b (off + j))
   (hw:∀ j x,nth cs j = some x → w.cell? ⟨b,off + j,none⟩ = some (cv j)) (hd:∀ j x,nth cs j = some x → DR g w false x (cv j)):VR g w (.cptr cs) (.pointer (some ⟨b,off,none⟩))
 | agg (cs:List V) (vs:List Value) (hl:cs.length = vs.length) (h:∀ i c v,nth cs i = some c → nth vs i = some v → VR g w c v):VR g w (.agg cs) (.agg vs.toArray)
 | tuple (cs:List V) (vs:List Value) (hl:cs.length = vs.length) (h:∀ i c v,nth cs i = some c → nth vs i = some v → VR g w c v):VR g w (.tuple cs) (.tuple vs.toArray)
 | fn (f:FuncId) (cs:List V) (vs:List Value) (hl:cs.length = vs.length) (h:∀ i c v,nth cs i = some c → nth vs i = some v → VR g w c v):VR g w (.fn f cs) (.func (.func f) #[] vs.toArray)
 | dead (rv:Value):VR g w .dead rv
 | uni (t:TypeId) (sz:Nat) (es:List V) (A:Option Addr) (n c:Nat):VR g w (.uni t sz es) (.slice A n c)
structure ObsLe (g g':G):Prop where
 len:g.obs.length ≤ g'.obs.length
 at_:∀ o,o < g.obs.length → ∀ x',nth g'.obs o = some (some x') → ∃ x,nth g.obs o = some (some x) ∧ x.1 ≤ x'.1 ∧ (x.1 = x'.1 → x = x')
theorem ObsLe.refl (g:G):ObsLe g g:=⟨Nat.le_refl _,fun _ _ x' h=>⟨x',h,Nat.le_refl _,fun _=>rfl⟩⟩
theorem ObsLe.trans {g1 g2 g3:G} (h:ObsLe g1 g2) (k:ObsLe g2 g3):ObsLe g1 g3 :=
 ⟨Nat.le_trans h.len k.len,fun o ho x' hx=>by
  obtain ⟨y,hy,h1,h2⟩:=k.at_ o (Nat.lt_of_lt_of_le ho h.len) x' hx
  obtain ⟨x,hx2,h3,h4⟩:=h.at_ o ho y hy
  exact ⟨x,hx2,Nat.le_trans h3 h1,fun e=>by
   have e1:x.1 = y.1:=Nat.le_antisymm h3 (by omega)
   have e2:y.1 = x'.1:=by omega
   rw [h4 e1,h2 e2]⟩⟩
theorem VR.keeps {g g':G} {w w':World} (hs:Sub g) (hk:Keeps g w g' w') (ho:ObsLe g g') {v:V} {rv:Value} (h:VR g w v rv):VR g' w' v rv:=by
 induction h with
 | data h=>exact .data (h.keeps hs hk)
 | ptr o ver i j a ho' h =>
  refine .ptr o ver i j a (Nat.lt_of_lt_of_le ho' ho.len) fun x' hx'=>?_
  obtain ⟨x,hx,h1,h2⟩:=ho.at_ o ho' x' hx'
  obtain ⟨h3,h4⟩:=h x hx
  refine ⟨Nat.le_trans h3 h1,fun e=>?_⟩
  have e1:x.1 = x'.1:=by omega
  rw [← h2 e1]; exact h4 (by omega)
 | arr o ver off len A c hc ho' h =>
  refine .arr o ver off len A c hc (Nat.lt_of_lt_of_le ho' ho.len) fun x' hx'=>?_
  obtain ⟨x,hx,h1,h2⟩:=ho.at_ o ho' x' hx'
  obtain ⟨h3,h4⟩:=h x hx
  refine ⟨Nat.le_trans h3 h1,fun e=>?_⟩
  have e1:x.1 = x'.1:=by omega
  rw [← h2 e1]; exact h4 (by omega)
 | cptr cs b off cv hi hw hd =>
  exact .cptr cs b off cv (fun j x h=>hk.imm _ _ (hi j x h)) (fun j x h=>(hk.cell _ _ (hi j x h)).trans (hw j x h)) (fun j x h=>(hd j x h).keeps hs hk)
 | agg cs vs hl h ih=>exact .agg cs vs hl ih
 | tuple cs vs hl h ih=>exact .tuple cs vs hl ih
 | fn f cs vs hl h ih=>exact .fn f cs vs hl ih
 | dead rv=>exact .dead rv
 | uni t sz es A n c=>exact .uni t sz es A n c
theorem VR.bool_inv {g:G} {w:World} {b:Bool} {rv:Value} (h:VR g w (.bool b) rv):rv = .bool b:=by
 cases h with | data h=>cases h; rfl
theorem VR.int_inv {g:G} {w:World} {k:IntKind} {n:Int} {rv:Value} (h:VR g w (.int k n) rv):rv = .int k n:=by
 cases h with | data h=>cases h; rfl
theorem VR.str_inv {g:G} {w:World} {s:ByteArray} {rv:Value} (h:VR g w (.str s) rv):rv = .string s:=by
 cases h with | data h=>cases h; rfl
theorem VR.list_inv {g:G} {w:World} {sz:Nat} {es:List V} {f:Fl} {rv:Value} (h:VR g w (.list sz es f) rv):DR g w false (.list sz es f) rv:=by
 cases h with | data h=>exact h
theorem VR.tuple_inv {g:G} {w:World} {cs:List V} {rv:Value} (h:VR g w (.tuple cs) rv) :
  ∃ vs:List Value,rv = .tuple vs.toArray ∧ cs.length = vs.length ∧ ∀ i c v,nth cs i = some c → nth vs i = some v → VR g w c v:=by
 cases h with
 | data h=>cases h with | tuple cs vs hl h=>exact ⟨vs,rfl,hl,fun i c v h1 h2=>.data (h i c v h1 h2)⟩
 | tuple cs vs hl h=>exact ⟨vs,rfl,hl,h⟩
theorem VR.agg_inv {g:G} {w:World} {cs:List V} {rv:Value} (h:VR g w (.agg cs) rv) :
  ∃ vs:List Value,rv = .agg vs.toArray ∧ cs.length = vs.length ∧ ∀ i c v,nth cs i = some c → nth vs i = some v → VR g w c v:=by
 cases h with
 | data h=>cases h with | agg cs vs hl h=>exact ⟨vs,rfl,hl,fun i c v h1 h2=>.data (h i c v h1 h2)⟩
 | agg cs vs hl h=>exact ⟨vs,rfl,hl,h⟩
theorem VR.fn_inv {g:G} {w:World} {f:FuncId} {cs:List V} {rv:Value} (h:VR g w (.fn f cs) rv) :
  ∃ vs:List Value,rv = .func (.func f) #[] vs.toArray ∧ cs.length = vs.length ∧ ∀ i c v,nth cs i = some c → nth vs i = some v → VR g w c v:=by
 cases h with
 | data h=>cases h with | fn f=>exact ⟨[],rfl,rfl,fun i c v h1=>by cases i <;> simp [nth] at h1⟩
 | fn f cs vs hl h=>exact ⟨vs,rfl,hl,h⟩
theorem VR.not_bool {g:G} {w:World} {v:V} {b:Bool} (h:VR g w v (.bool b)):v = .bool b ∨ v = .dead:=by
 cases h with
 | data h=>cases h; exact .inl rfl
 | dead=>exact .inr rfl
theorem DR.noOwnCell {g:G} {w:World} {l:Bool} {v:V} {rv:Value} (h:DR g w l v rv):DR g w l v.noOwnCell rv:=by
 cases h with
 | list esz es f A n c b off cv hn hc hl hA hsz hf ho hw hd =>
  have e:f.noOwn.lv = f.lv:=by cases f <;> rfl
  exact .list esz es f.noOwn A n c b off cv hn hc (fun h=>hl (by cases f <;> simp_all [Fl.noOwn])) hA hsz hf (by rw [e]; exact ho) hw (by rw [e]; exact hd)
 | bool b=>exact .bool b
 | int k n=>exact .int k n
 | str s=>exact .str s
 | nilp=>exact .nilp
 | nilf=>exact .nilf
 | nili=>exact .nili
 | nils=>exact .nils
 | fn f=>exact .fn f
 | agg cs vs hl h=>exact .agg cs vs hl h
 | tuple cs vs hl h=>exact .tuple cs vs hl h
theorem Zac {α β:Type} {l:List α} {f:α → β} {j:Nat} {x:β} (h:nth (l.map f) j = some x):∃ y,nth l j = some y ∧ f y = x:=by
 rw [Zad,List.getElem?_map] at h
 rw [Zad]
 cases hl:l[j]? with
 | none=>rw [hl] at h; cases h
 | some y=>rw [hl] at h; exact ⟨y,rfl,Option.some.inj h⟩
theorem DR.noOwn {g:G} {w:World} {l:Bool} {v:V} {rv:Value} (h:DR g w l v rv):DR g w l v.noOwn rv:=by
 cases h with
 | list esz es f A n c b off cv hn hc hl hA hsz hf ho hw hd=>exact (DR.list esz es f A n c b off cv hn hc hl hA hsz hf ho hw hd).noOwnCell
 | bool b=>exact .bool b
 | int k n=>exact .int k n
 | str s=>exact .str s
 | nilp=>exact .nilp
 | nilf=>exact .nilf
 | nili=>exact .nili
 | nils=>exact .nils
 | fn f=>exact .fn f
 | agg cs vs hl h =>
  refine .agg _ vs (by simp [hl]) fun i c v h1 h2=>?_
  obtain ⟨y,hy,rfl⟩:=Zac h1
  exact (h i y v hy h2).noOwnCell
 | tuple cs vs hl h=>exact .tuple cs vs hl h
theorem VR.noOwnCell {g:G} {w:World} {v:V} {rv:Value} (h:VR g w v rv):VR g w v.noOwnCell rv:=by
 cases h with
 | data h=>exact .data h.noOwnCell
 | ptr o ver i j a ho h=>exact .ptr o ver i j a ho h
 | arr o ver off len A c hc ho h=>exact .arr o ver off len A c hc ho h
 | cptr cs b off cv ho hw hd=>exact .cptr cs b off cv ho hw hd
 | agg cs vs hl h=>exact .agg cs vs hl h
 | tuple cs vs hl h=>exact .tuple cs vs hl h
 | fn f cs vs hl h=>exact .fn f cs vs hl h
 | dead rv=>exact .dead rv
 | uni t sz es A n c=>exact .dead _
theorem VR.noOwn {g:G} {w:World} {v:V} {rv:Value} (h:VR g w v rv):VR g w v.noOwn rv:=by
 cases h with
 | data h=>exact .data h.noOwn
 | ptr o ver i j a ho h=>exact .ptr o ver i j a ho h
 | arr o ver off len A c hc ho h=>exact .arr o ver off len A c hc ho h
 | cptr cs b off cv ho hw hd=>exact .cptr cs b off cv ho hw hd
 | agg cs vs hl h =>
  refine .agg _ vs (by simp [hl]) fun i c v h1 h2=>?_
  obtain ⟨y,hy,rfl⟩:=Zac h1
  exact (h i y v hy h2).noOwnCell
 | tuple cs vs hl h=>exact .tuple cs vs hl h
 | fn f cs vs hl h=>exact .fn f cs vs hl h
 | dead rv=>exact .dead rv
 | uni t sz es A n c=>exact .dead _
end Go.VM
