/- slices.Clone of rows of scalars, as an object of the caller's. -/
import Derived.Test.YtkchbabkbpcncaaVmZr
set_option linter.unusedSimpArgs false
set_option linter.unusedVariables false
namespace Go.VM
open Go.RowKit Go.Lib
theorem Znh {c:V} {rv:Value} {g:G} {w:World} {l:Bool} (hc:c.scal = true) (h:DR g w l c rv):(∀ g w l,DR g w l c rv) ∧ rv.oneCell' = true:=by
 cases h <;> first | (simp [V.scal] at hc; done) | skip
 ·exact ⟨fun _ _ _=>.bool _,rfl⟩
 ·exact ⟨fun _ _ _=>.int _ _,rfl⟩
 ·exact ⟨fun _ _ _=>.str _,rfl⟩
theorem ZnX {C:Cfg} {c:V} {rv:Value} {g:G} {w:World} (hc:c.scal = true):OwnOk C g w c rv :=
 ⟨fun sz es e h=>by subst h; simp [V.scal] at hc,fun cs h=>by subst h; simp [V.scal] at hc,fun t sz es h=>by subst h; simp [V.scal] at hc⟩
theorem Zjx {c:V} (hc:c.scal = true):¬ c.owns:=by
 rintro (⟨sz,es,e,rfl⟩ | ⟨t,sz,es,rfl⟩) <;> simp [V.scal] at hc
theorem Zoz {e x:V} {j:Nat} (he:e.scalE = true) (hx:nth e.cells j = some x):x.scal = true:=by
 unfold V.scalE at he
 exact List.all_eq_true.1 he x (List.mem_of_getElem? (by rw [← Zad]; exact hx))
theorem ZpH {c:V} (hc:c.scal = true):firmC c = true:=by
 cases c <;> first | rfl | (simp [V.scal] at hc; done)
theorem ZoM {e:V} (he:e.scalE = true):firm1 e = true:=by
 unfold V.scalE V.cells at he
 cases e <;> first | (simp [V.scal] at he; done) | rfl | skip
 rename_i cs
 simp only [firm1]
 rw [List.all_eq_true] at he ⊢
 exact fun x hx=>ZpH (he x hx)
theorem ZmH {c:V} (hc:c.scal = true):ZbK c = true:=by
 cases c <;> first | rfl | (simp [V.scal] at hc; done)
theorem Zj7 {es:List V} (hs:es.all V.scalE = true):Zaw es = true:=by
 unfold Zaw
 rw [List.all_eq_true] at hs ⊢
 intro e he
 have:=hs e he
 unfold V.scalE at this
 rw [List.all_eq_true] at this ⊢
 exact fun x hx=>ZmH (this x hx)
theorem Sim.lone {C:Cfg} {g:G} {w w':World} (hs:Sim C g [] [] ZaI w) (hsize:w.heap.size ≤ w'.heap.size) (hlow:∀ b,b < w.heap.size → w'.heap[b]? = w.heap[b]?) (ob:Ob) (x:OX)
  (hcell:∀ i e j c,nth ob.es i = some e → nth e.cells j = some c → c.scal = true) (hob:ObR C { g with obs:=[some x] } w' ob x):Sim C { g with obs:=[some x] } [] [some ob] ZaI w' where
 len:=rfl
 env:=fun t v h=>by simp [nth] at h
 olen:=rfl
 obj:=fun o ob' h=>by
  cases o with
  | zero =>
   simp only [nth] at h
   obtain rfl:=Option.some.inj (Option.some.inj h)
   exact ⟨x,rfl,hob⟩
  | succ o=>simp [nth] at h
 gone:=fun o x' h=>by
  cases o with
  | zero=>exact ⟨ob,rfl⟩
  | succ o=>simp [nth] at h
 inj:=fun o o' x1 x2 h1 h2 _ _ _=>by
  cases o with
  | zero =>
   cases o' with
   | zero=>rfl
   | succ o'=>simp [nth] at h2
  | succ o=>simp [nth] at h1
 own:=fun p q b hp hq=>by
  exfalso
  cases p with
  | slot t =>
   obtain ⟨v,rv,h1,_⟩:=hp
   simp [nth] at h1
  | cell o i j =>
   obtain ⟨ob',x',el,c,rv,h1,h2,h3,h4,h5,_⟩:=hp
   cases o with
   | zero =>
    simp only [nth] at h1
    obtain rfl:=Option.some.inj (Option.some.inj h1)
    exact Zjx (hcell i el j c h3 h4) h5
   | succ o=>simp [nth] at h1
 sub:=hs.sub
 immlt:=fun b i h=>Nat.lt_of_lt_of_le (hs.immlt b i h) hsize
 basele:=Nat.le_trans hs.basele hsize
 susplt:=fun b h=>Nat.lt_of_lt_of_le (hs.susplt b h) hsize
theorem Le.lone {C:Cfg} {g:G} {w w':World} (hs:Sim C g [] [] ZaI w) (hb:Below w.heap.size w w') (x:OX):Le 0 g w { g with obs:=[some x] } w' where
 keeps:=⟨fun _ _ h=>h,fun _ _ h=>h,fun b i hi=>Za2 (hb.block b (hs.immlt b i hi)) i⟩
 size:=hb.size
 os:=hb.os
 tape:=hb.tape
 output:=hb.output
 base:=rfl
 susp:=fun _=>Iff.rfl
 low:=fun b h=>hb.block b (Nat.lt_of_lt_of_le h hs.basele)
 sus:=fun b h=>⟨hb.block b (hs.susplt b h),fun _ h=>h,fun _ h=>h⟩
 klen:=Nat.zero_le _
 obs:=fun o ho=>absurd ho (Nat.not_lt_zero o)
def ZhX {R:Type} (B sz:Nat) (es:List V) (k:Nat → List V → Option R):Option R :=
 if es.length * B ≤ 140737488355328 then Zaf (es.all V.scalE && es.all fun e=>Nat.beq e.cells.length sz) (k es.length es) else none
variable {P:Program} {C:Cfg}
theorem ZgH (hC : Ok P C) {f : FuncId} {fn : Func} {e : TypeId} (hke : (C.ty e).known = true) (hf : P.funcs[f]? = some fn) (hb : fn.body.isNone = false) (hname : (fn.name == "runtime.NumGoroutine") = false)
  (h0:∀ (c:Nat) (w:World) (i0:TypeInfo),P.info? e = some i0 → Calls P f #[.slice none 0 c] w fun ev w'=>∃ A,ev = .returned (.slice A 0 0) ∧ Below w.heap.size w w')
  (hz:∀ (a:Addr) (c:Nat) (w:World) (i0:TypeInfo),P.info? e = some i0 → Calls P f #[.slice (some a) 0 c] w fun ev w'=>∃ A,ev = .returned (.slice A 0 0) ∧ Below w.heap.size w w')
  (h1:∀ (a:Addr) (m c:Nat) (news:List Value) (w:World) (i0:TypeInfo) (z:Value),0 < m → P.info? e = some i0 → i0.zero = some z → z.cells.size = i0.size → 0 < i0.size → news.length = m * i0.size → (∀ j u,news[j]? = some u → w.cell? (a.add j) = some u) →
   (∀ u ∈ news,u.oneCell' = true) → m * i0.bytes ≤ 140737488355328 → m ≤ maxLen →
   Calls P f #[.slice (some a) m c] w fun ev w'=>∃ G cap,ev = .returned (.slice (some ⟨G,0,none⟩) m cap) ∧ m ≤ cap ∧ cap ≤ maxLen ∧ w.heap.size ≤ G ∧
    w'.heap[G]? = some (.cells (news.toArray ++ Builtin.zeroCells z.cells (cap - m)) e (0,0)) ∧ Below w.heap.size w w')
  {B sz:Nat} (hB:(C.ty e).bytes = B) (hSz:(C.ty e).size = sz)
  {R:Type} {es:List V} {fl:Fl} {k:Nat → List V → Option R} {r:R} (h:ZhX B sz es k = some r) :
  k es.length es = some r ∧ ZcK P C f [.list sz es fl] (.arr 0 0 0 es.length) [some ⟨es,sz,e,0⟩]:=by
 subst hB hSz
 unfold ZhX at h
 split at h <;> first | (cases h; done) | skip
 rename_i hlim
 obtain ⟨hg,h⟩:=Zaa h
 rw [Bool.and_eq_true] at hg
 obtain ⟨hsc,hszs⟩:=hg
 refine ⟨h,rfl,fun o ob ho=>?_,by simp [V.still],Nat.zero_le _,fun g w rvs keep hk hs hl hargs=>?_⟩
 ·cases o with
  | zero =>
   simp only [nth] at ho
   obtain rfl:=Option.some.inj (Option.some.inj ho)
   exact ⟨fun i v hv=>ZoM (List.all_eq_true.1 hsc v (List.mem_of_getElem? (by rw [← Zad]; exact hv))),fun _=>Zj7 hsc⟩
  | succ o=>simp [nth] at ho
 obtain rfl:keep = 0:=Nat.le_zero.1 hk
 obtain ⟨i0,z,hi0,hsz,hby,hz0,hzs,_⟩:=(hC.ty e hke).info
 have hpos:=(hC.ty e hke).pos
 have hbp:=(hC.ty e hke).bpos
 have hcell:∀ i el j c,nth es i = some el → nth el.cells j = some c → c.scal = true:=fun i el j c h1 h2 =>
  Zoz (List.all_eq_true.1 hsc el (List.mem_of_getElem? (by rw [← Zad]; exact h1))) h2
 have hesz:∀ i el,nth es i = some el → el.cells.length = (C.ty e).size:=fun i el h1 =>
  Nat.eq_of_beq_eq_true (List.all_eq_true.1 hszs el (List.mem_of_getElem? (by rw [← Zad]; exact h1)))
 have hrv:∃ a,rvs = #[a] ∧ DR g w false (.list (C.ty e).size es fl) a:=by
  match hq:rvs.toList,(by simpa using hl:1 = rvs.toList.length) with
  | [a],_ =>
   have h0:rvs[0]? = some a:=by rw [← Array.getElem?_toList,hq]; rfl
   refine ⟨a,by apply Array.ext'; simpa using hq,?_⟩
   have:=(hargs 0 _ a rfl h0).1
   cases this with
   | data h=>exact h
  | [],h=>simp at h
  | _ :: _ :: _,h=>simp at h
 obtain ⟨a,rfl,ha⟩:=hrv
 have none':∀ (A:Option Addr) (w':World),es = [] → Below w.heap.size w w' → ∃ g',Le 0 g w g' w' ∧ Sim C g' [] [some ⟨es,(C.ty e).size,e,0⟩] ZaI w' ∧ VR g' w' (.arr 0 0 0 es.length) (.slice A 0 0):=by
  intro A w' hes hbel
  subst hes
  refine ⟨{ g with obs:=[some (0,0,(C.ty e).size,0,0)] },Le.lone hs hbel _,hs.lone hbel.size hbel.block _ _ (fun i el j c h=>by simp [nth] at h) {
   ver:=rfl
   esz:=rfl
   ty:=rfl
   known:=hke
   blk:=⟨#[],0,fun h=>absurd h (Nat.lt_irrefl 0),rfl,by simp,Nat.zero_le _,Nat.le_refl _,fun k v h=>by simp at h,fun i e j c h=>by simp [nth] at h⟩
   sz:=fun i e h=>by simp [nth] at h
   flat:=fun i e j c h=>by simp [nth] at h
   base:=fun h=>absurd h (Nat.lt_irrefl 0)
   nsusp:=fun h=>absurd h (Nat.lt_irrefl 0)
   nimm:=fun h=>absurd h (Nat.lt_irrefl 0) },?_⟩
  refine .arr 0 0 0 0 A 0 (Nat.le_refl _) (by simp) fun x hx=>?_
  simp only [nth] at hx
  obtain rfl:=Option.some.inj (Option.some.inj hx)
  exact ⟨Nat.le_refl _,fun _=>⟨.inl rfl,by simp⟩⟩
 refine Zft.of_calls hf hb hname ?_
 cases ha with
 | list esz es f A n c b off cv hln hc2 hl hA hszl hf2 ho hw hd =>
  subst hln
  by_cases hes:es = []
  ·have hn:es.length = 0:=by rw [hes]; rfl
   rw [hn]
   cases A with
   | none=>exact (h0 c w i0 hi0).mono fun ev w' ⟨A',he,hbel⟩=>⟨_,he,by have:=none' A' w' hes hbel; rwa [hn] at this⟩
   | some A=>exact (hz A c w i0 hi0).mono fun ev w' ⟨A',he,hbel⟩=>⟨_,he,by have:=none' A' w' hes hbel; rwa [hn] at this⟩
  ·obtain rfl:=hA.resolve_left hes
   have hn:0 < es.length:=List.length_pos_iff.2 hes
   let S:=(C.ty e).size
   have hat:∀ j,j < es.length * S → ∃ el x,nth es (j / S) = some el ∧ nth el.cells (j % S) = some x:=by
    intro j hj
    have h2:j / S < es.length:=by rw [Nat.div_lt_iff_lt_mul hpos]; exact hj
    have h3:nth es (j / S) = some es[j / S]:=by rw [Zad,List.getElem?_eq_getElem h2]
    have h4:j % S < (es[j / S]).cells.length:=by rw [hesz _ _ h3]; exact Nat.mod_lt _ hpos
    exact ⟨_,(es[j / S]).cells[j % S],h3,by rw [Zad,List.getElem?_eq_getElem h4]⟩
   let news:List Value:=(List.range (es.length * S)).map fun j=>cv (j / S) (j % S)
   have hnl:news.length = es.length * S:=by simp [news]
   have hnat:∀ j u,news[j]? = some u → j < es.length * S ∧ u = cv (j / S) (j % S):=by
    intro j u hj
    have h2:j < es.length * S:=by rw [← hnl]; exact (List.getElem?_eq_some_iff.1 hj).1
    refine ⟨h2,?_⟩
    simp only [news,List.getElem?_map,List.getElem?_range h2,Option.map_some] at hj
    exact (Option.some.inj hj).symm
   have hone:∀ u ∈ news,u.oneCell' = true:=by
    intro u hu
    obtain ⟨j,hj⟩:=List.getElem?_of_mem hu
    obtain ⟨h2,rfl⟩:=hnat j u hj
    obtain ⟨el,x,h3,h4⟩:=hat j h2
    exact (Znh (hcell _ _ _ _ h3 h4) (hd _ _ _ _ h3 h4)).2
   have hbig:es.length * i0.bytes ≤ 140737488355328:=by rw [hby]; exact hlim
   have hmx:es.length ≤ maxLen:=by
    have h5:es.length * 1 ≤ es.length * (C.ty e).bytes:=Nat.mul_le_mul_left _ hbp
    unfold maxLen
    omega
   refine (h1 ⟨b,off,none⟩ es.length c news w i0 z hn hi0 hz0 (by rw [hzs,hsz]) (by rw [hsz]; exact hpos) (by rw [hnl,hsz]) (fun j u hj=>?_) hone hbig hmx).mono fun ev w' ⟨G,cap,he,hcap,hcm,hG,hblk,hbel⟩=>⟨_,he,?_⟩
   ·obtain ⟨h2,rfl⟩:=hnat j u hj
    obtain ⟨el,x,h3,h4⟩:=hat j h2
    have h5:=hw _ _ _ _ h3 h4
    have h6:off + j / S * S + j % S = off + j:=by rw [Nat.add_assoc,Nat.div_add_mod']
    rw [Addr.add_lit,← h6]
    exact h5
   ·have hsz2:(news.toArray ++ Builtin.zeroCells z.cells (cap - es.length)).size = cap * S:=by
     rw [Array.size_append,size_zeroCells,List.size_toArray,hnl,hzs,← Nat.add_mul]
     congr 1
     omega
    have hfz:C.fz 0 (news.toArray ++ Builtin.zeroCells z.cells (cap - es.length)).size = (0,0):=by
     unfold Cfg.fz
     cases C.thaw <;> rfl
    refine ⟨{ g with obs:=[some (0,G,S,(news.toArray ++ Builtin.zeroCells z.cells (cap - es.length)).size,0)] },Le.lone hs hbel _,hs.lone hbel.size hbel.block _ _ hcell {
     ver:=rfl
     esz:=rfl
     ty:=rfl
     known:=hke
     blk:=⟨_,cap,fun _=>by rw [hfz]; exact hblk,rfl,by simpa using hsz2,hcm,hcap,fun k v hv=>?_,fun i el j x h3 h4=>?_⟩
     sz:=hesz
     flat:=fun i el j x h3 h4=>hf2 i el j x h3 h4
     base:=fun _=>Nat.le_trans hs.basele hG
     nsusp:=fun _ hsu=>absurd (hs.susplt _ hsu) (Nat.not_lt.2 hG)
     nimm:=fun _ i hi=>absurd (hs.immlt _ i hi) (Nat.not_lt.2 hG) },?_⟩
    ·have hm:=Array.mem_of_getElem? hv
     rcases Array.mem_append.1 hm with hm | hm
     ·exact hone v (by simpa using hm)
     ·obtain ⟨z',hz',hzok,_,_⟩:=(hC.ty e hke).zero hi0
      rw [hz0] at hz'
      obtain rfl:=Option.some.inj hz'
      obtain ⟨k',hk'⟩:=Array.getElem?_of_mem hm
      exact hzok.one _ v (ZbW (by rw [hzs]; exact hpos) hk').1
    ·have hj:j < S:=by
      have:=Zau h4
      rw [hesz i el h3] at this
      exact this
     have hi:i < es.length:=Zau h3
     have hlt:i * S + j < es.length * S:=by
      have:(i + 1) * S ≤ es.length * S:=Nat.mul_le_mul_right _ hi
      rw [Nat.add_mul,Nat.one_mul] at this
      omega
     have hdiv:(i * S + j) / S = i:=by rw [Nat.mul_comm,Nat.mul_add_div hpos,Nat.div_eq_of_lt hj,Nat.add_zero]
     have hmod:(i * S + j) % S = j:=by rw [Nat.mul_comm,Nat.mul_add_mod,Nat.mod_eq_of_lt hj]
     have hget:news[i * S + j]? = some (cv i j):=by
      simp only [news,List.getElem?_map,List.getElem?_range hlt,Option.map_some,hdiv,hmod]
     have hdr:=(Znh (hcell _ _ _ _ h3 h4) (hd _ _ _ _ h3 h4)).1
     refine ⟨cv i j,?_,.data (hdr _ _ _),ZnX (hcell _ _ _ _ h3 h4)⟩
     rw [Nat.zero_add,Array.getElem?_append_left (by rw [List.size_toArray,hnl]; exact hlt)]
     simpa using hget
    ·refine .arr 0 0 0 _ _ cap hcap (by simp) fun x hx=>?_
     simp only [nth] at hx
     obtain rfl:=Option.some.inj (Option.some.inj hx)
     refine ⟨Nat.le_refl _,fun _=>⟨.inr (by simp),?_⟩⟩
     simp only
     rw [hsz2]
     simp
end Go.VM
