/- Appending: what is appended, and to a list of one's own. -/
import Derived.Test.YtkchbabkbpcncaaVmK
import Derived.Lib.AppendStr
set_option linter.unusedSimpArgs false
set_option linter.unusedVariables false
namespace Go.VM
open Go.RowKit Go.Lib
section
variable {P:Program} {C:Cfg} {o:Oper} {E:List V} {s:S}
structure Src (P:Program) (g:G) (w:World) (sz:Nat) (ys:List V) (ry:Value) (l:Bool) (news:List Value):Prop where
 len:Builtin.lenOf ry = pure ys.length
 first:∀ w1:World,w1.heap = w.heap → (Builtin.firstCells sz ys.length ry).run P w1 = .ok news.toArray w1
 nlen:news.length = ys.length * sz
 one:∀ u ∈ news,u.oneCell' = true
 esz:∀ i e,nth ys i = some e → e.cells.length = sz
 cell:∀ i e j c,nth ys i = some e → nth e.cells j = some c → c.flatCell = true ∧ ∃ rv,nth news (i * sz + j) = some rv ∧ VR g w c rv ∧ (l = true → DR g w true c rv)
theorem ZfO {w w1:World} (h:w1.heap = w.heap) (a:Addr):w1.cell? a = w.cell? a:=by simp [World.cell?,h]
theorem ZgW {k n sz:Nat} (hpos:0 < sz) (h:k < n * sz):k / sz < n ∧ k % sz < sz ∧ k / sz * sz + k % sz = k :=
 ⟨(Nat.div_lt_iff_lt_mul hpos).2 h,Nat.mod_lt _ hpos,by rw [Nat.mul_comm]; exact Nat.div_add_mod k sz⟩
theorem Zi5 {g:G} {w:World} {sz:Nat} {ys:List V} {f:Fl} {ry:Value} (hpos:0 < sz) (h:VR g w (.list sz ys f) ry):∃ news,Src P g w sz ys ry f.lv news:=by
 have h2:=h.list_inv
 cases h2 with
 | list esz es f A n c b off cv hn hc hl hA hs hf ho hw hd =>
  subst hn
  have cellof:∀ k,k < ys.length * sz → ∃ e x,nth ys (k / sz) = some e ∧ nth e.cells (k % sz) = some x:=by
   intro k hk
   obtain ⟨h1,h2,h3⟩:=ZgW hpos hk
   have he:nth ys (k / sz) = some ys[k / sz]:=by rw [Zad,List.getElem?_eq_getElem h1]
   have hlen:=hs _ _ he
   exact ⟨_,_,he,by rw [Zad,List.getElem?_eq_getElem (by rw [hlen]; exact h2)]⟩
  refine ⟨(List.range (ys.length * sz)).map fun k=>cv (k / sz) (k % sz),rfl,fun w1 hw1=>?_,by simp,fun u hu=>?_,hs,fun i e j x hi hj=>?_⟩
  ·rcases hA with rfl | rfl
   ·cases A with
    | none=>simp [Builtin.firstCells]
    | some a=>simp [Builtin.firstCells,loadCells,loadCellsFrom]
   ·refine run_firstCells_some w1 _ _ _ _ _ _ (by simp) fun k v hk=>?_
    rw [List.getElem?_map] at hk
    by_cases hlt:k < ys.length * sz
    ·rw [List.getElem?_range hlt] at hk
     obtain rfl:=Option.some.inj hk
     obtain ⟨e,x,he,hx⟩:=cellof k hlt
     obtain ⟨_,_,h3⟩:=ZgW hpos hlt
     rw [ZfO hw1,ZbL,← hw _ _ _ _ he hx]
     congr 2
     omega
    ·rw [List.getElem?_eq_none (by simpa using hlt)] at hk
     cases hk
  ·obtain ⟨k,hk,rfl⟩:=List.mem_map.1 hu
   rw [List.mem_range] at hk
   obtain ⟨e,x,he,hx⟩:=cellof k hk
   have hd':=hd _ _ _ _ he hx
   have hf':=hf _ _ _ _ he hx
   refine ((VR.data hd'.weak).oneCell ?_).1
   cases x <;> first | rfl | (cases hf'; done) | (cases hd'; done)
  ·have hlt:i < ys.length:=Zau hi
   have hjl:j < sz:=by rw [← hs i e hi]; exact Zau hj
   have hk:i * sz + j < ys.length * sz:=by
    have:(i + 1) * sz ≤ ys.length * sz:=Nat.mul_le_mul_right _ hlt
    rw [Nat.add_mul] at this; omega
   have e1:(i * sz + j) / sz = i:=by rw [Nat.mul_comm,Nat.mul_add_div hpos,Nat.div_eq_of_lt hjl,Nat.add_zero]
   have e2:(i * sz + j) % sz = j:=by rw [Nat.mul_comm,Nat.mul_add_mod,Nat.mod_eq_of_lt hjl]
   refine ⟨hf i e j x hi hj,cv i j,?_,.data (hd i e j x hi hj).weak,fun hl'=>?_⟩
   ·rw [Zad,List.getElem?_map,List.getElem?_range hk]
    simp [e1,e2]
   ·have:=hd i e j x hi hj
    rwa [hl'] at this
theorem ZrX {g:G} {a:Act} {w:World} (hs:Sim C g E s a w) {sz oo ver off len:Nat} {ob:Ob} {ry:Value} (hpos:0 < sz) (hob:Zbs s oo ver = some ob) (hsz:ob.esz = sz) (hle:off + len ≤ ob.es.length)
  (h:VR g w (.arr oo ver off len) ry):∃ news,Src P g w sz ((ob.es.drop off).take len) ry (((ob.es.drop off).take len).all V.plain) news:=by
 obtain ⟨hob1,hver⟩:=ZaY hob
 obtain ⟨x,hx,hr⟩:=hs.obj oo ob hob1
 obtain ⟨arr,cap,b1,b2,b3,b4,b5,b7,b6⟩:=hr.blk
 subst hsz
 have hyl:((ob.es.drop off).take len).length = len:=by simp; omega
 have hnth:∀ i e,nth ((ob.es.drop off).take len) i = some e → nth ob.es (off + i) = some e ∧ i < len:=by
  intro i e hi
  obtain ⟨h1,h2⟩:=ZbP hi
  exact ⟨ZbQ h1,h2⟩
 have hfit:(x.2.2.2.2 + off) * ob.esz + len * ob.esz ≤ arr.size:=by
  rw [b3,← Nat.add_mul]; exact Nat.mul_le_mul_right _ (by omega)
 cases h with
 | data h=>cases h
 | arr _ _ _ _ A c hc ho h =>
  obtain ⟨q1,q2⟩:=h x hx
  obtain ⟨q3,q4⟩:=q2 (by rw [hver,hr.ver])
  refine ⟨(arr.toList.drop ((x.2.2.2.2 + off) * ob.esz)).take (len * ob.esz),by rw [hyl]; rfl,fun w1 hw1=>?_,by rw [hyl]; simp; omega,fun u hu=>?_,fun i e hi=>hr.sz _ _ (hnth i e hi).1,fun i e j cc hi hj=>?_⟩
  ·rw [hyl]
   rcases q3 with rfl | rfl
   ·obtain rfl:len = 0:=by omega
    cases A with
    | none=>simp [Builtin.firstCells]
    | some a=>simp [Builtin.firstCells,loadCells,loadCellsFrom]
   ·refine run_firstCells_some w1 _ _ _ _ _ _ (by simp; omega) fun k v hk=>?_
    have hk':nth ((arr.toList.drop ((x.2.2.2.2 + off) * ob.esz)).take (len * ob.esz)) k = some v:=by rw [Zad]; exact hk
    obtain ⟨h1,h2⟩:=ZbP hk'
    have h3:=ZbQ h1
    rw [ZfO hw1,ZbL,hr.esz]
    rw [← Za6,Array.toArray_toList] at h3
    exact Zap (b1 (by rw [← b2]; have:=(Array.getElem?_eq_some_iff.1 h3).1; omega)) h3
  ·obtain ⟨k,hk⟩:=List.getElem?_of_mem hu
   have hk':nth ((arr.toList.drop ((x.2.2.2.2 + off) * ob.esz)).take (len * ob.esz)) k = some u:=by rw [Zad]; exact hk
   have h3:=ZbQ (ZbP hk').1
   exact b7 _ u (by rw [← Za6,Array.toArray_toList] at h3; exact h3)
  ·obtain ⟨hi',hlt⟩:=hnth i e hi
   obtain ⟨rv,r1,r2,r3⟩:=b6 _ e j cc hi' hj
   have hjl:j < ob.esz:=by rw [← hr.sz _ e hi']; exact Zau hj
   have hk:i * ob.esz + j < len * ob.esz:=by
    have:(i + 1) * ob.esz ≤ len * ob.esz:=Nat.mul_le_mul_right _ hlt
    rw [Nat.add_mul] at this; omega
   refine ⟨hr.flat _ e j cc hi' hj,rv,?_,r2,fun hpl=>?_⟩
   ·rw [Zad,List.getElem?_take,if_pos hk,List.getElem?_drop,Array.getElem?_toList,← r1]
    congr 1
    simp only [Nat.add_mul]; omega
   ·have hpe:e.plain = true:=List.all_eq_true.1 hpl e (List.mem_of_getElem? (by rw [← Zad]; exact hi))
    exact Ziv r2 (Zd9 hpe hj)
theorem Zuk {g:G} {w:World} (b:ByteArray):Src P g w 1 (Zdr b) (.string b) true (strCells b) where
 len:=by simp [Zdr,Builtin.lenOf]
 first:=fun w1 _=>by
  have:(Zdr b).length = b.size:=by simp [Zdr]
  rw [this]; exact run_firstCells_string w1 1 b
 nlen:=by rw [strCells_length]; simp [Zdr]
 one:=strCells_oneCell b
 esz:=fun i e hi=>by
  obtain ⟨x,_,rfl⟩:=Zac hi
  rfl
 cell:=fun i e j c hi hj=>by
  obtain ⟨x,hx,rfl⟩:=Zac hi
  cases j with
  | succ j=>simp [V.cells,nth] at hj
  | zero =>
   simp [V.cells,nth] at hj
   subst hj
   refine ⟨rfl,.int .u8 x.toNat,?_,.data (.int _ _),fun _=>.int _ _⟩
   rw [Zad] at hx ⊢
   simp [strCells]
   exact ⟨x,by simpa using hx,rfl⟩
theorem Zqt {R:Type} {sz:Nat} {y:V} {K:List V → Option R} {r:R} (hpos:0 < sz) (h:Zqr sz s y K = some r) :
  ∃ ys,K ys = some r ∧ ∀ (C:Cfg) g E a w ry,Sim C g E s a w → VR g w y ry → ∃ news,Src P g w sz ys ry true news:=by
 unfold Zqr at h
 split at h <;> first | (cases h; done) | skip
 ·rename_i b
  obtain ⟨h1,h2⟩:=Zaa h
  have hsz:=Nat.eq_of_beq_eq_true h1
  subst hsz
  exact ⟨_,h2,fun C g E a w ry hs hy=>by rw [hy.str_inv]; exact ⟨_,Zuk b⟩⟩
 ·rename_i sz' ys f
  obtain ⟨h1,h2⟩:=Zaa h
  have hsz:=Nat.eq_of_beq_eq_true h1
  subst hsz
  obtain ⟨h3,h4⟩:=Zaa h2
  unfold Zjd at h3
  split at h3
  ·refine ⟨_,h4,fun C g E a w ry hs hy=>?_⟩
   obtain ⟨news,hn⟩:=Zi5 (P:=P) hpos hy
   refine ⟨news,{ hn with cell:=fun i e j c hi hj=>?_ }⟩
   obtain ⟨k1,rv,k2,k3,_⟩:=hn.cell i e j c hi hj
   have hpe:e.plain = true:=List.all_eq_true.1 h3 e (List.mem_of_getElem? (by rw [← Zad]; exact hi))
   exact ⟨k1,rv,k2,k3,fun _=>Ziv k3 (Zd9 hpe hj)⟩
  ·rename_i hnb
   refine ⟨_,h4,fun C g E a w ry hs hy=>?_⟩
   have:=Zi5 (P:=P) hpos hy
   have hlv:f.lv = true:=by cases f <;> first | rfl | exact absurd rfl hnb
   rwa [hlv] at this
 ·rename_i oo ver off len
  split at h <;> first | (cases h; done) | skip
  rename_i ob hob
  obtain ⟨h1,h2⟩:=Zaa h
  obtain ⟨h3,h4⟩:=Zaa h2
  have hb:Nat.beq ob.esz sz = true ∧ off + len ≤ ob.es.length:=by simpa using h1
  refine ⟨_,h4,fun C g E a w ry hs hy=>?_⟩
  have:=ZrX (P:=P) hs hpos hob (Nat.eq_of_beq_eq_true hb.1) hb.2 hy
  rwa [h3] at this
theorem Zhp {R:Type} {sz:Nat} {y:V} {K:List V → Option R} {r:R} (hpos:0 < sz) (h:ZcM sz s y K = some r) :
  ∃ ys,K ys = some r ∧ ∀ (C:Cfg) g E a w ry,Sim C g E s a w → VR g w y ry → ∃ l news,Src P g w sz ys ry l news:=by
 unfold ZcM at h
 split at h <;> first | (cases h; done) | skip
 ·rename_i sz' ys f
  obtain ⟨h1,h2⟩:=Zaa h
  have hsz:=Nat.eq_of_beq_eq_true h1
  subst hsz
  exact ⟨_,h2,fun C g E a w ry hs hy=>⟨_,Zi5 (P:=P) hpos hy⟩⟩
 ·rename_i oo ver off len
  split at h <;> first | (cases h; done) | skip
  rename_i ob hob
  obtain ⟨h1,h2⟩:=Zaa h
  have hb:Nat.beq ob.esz sz = true ∧ off + len ≤ ob.es.length:=by simpa using h1
  exact ⟨_,h2,fun C g E a w ry hs hy=>⟨_,ZrX (P:=P) hs hpos hob (Nat.eq_of_beq_eq_true hb.1) hb.2 hy⟩⟩
structure Appended (w:World) (e:TypeId) (size:Nat) (v:Value) (n m:Nat) (olds news:List Value) (v':Value) (w':World):Prop where
 os:w'.os = w.os
 tape:w'.tape = w.tape
 output:w'.output = w.output
 form:(v' = v ∧ w' = w ∧ n = 0 ∧ m = 0 ∧ ∃ A,v = .slice A 0 0) ∨
  (∃ gb o0 cap cur,v = .slice (some ⟨gb,o0,none⟩) n cap ∧ w.heap[gb]? = some (.cells cur e (0,0)) ∧ n + m ≤ cap ∧ o0 + cap * size ≤ cur.size ∧ (cur.toList.drop o0).take (n * size) = olds ∧ v' = .slice (some ⟨gb,o0,none⟩) (n + m) cap ∧
   w' = w.setRow gb (cur.toList.take (o0 + n * size) ++ news ++ cur.toList.drop (o0 + n * size + news.length)).toArray) ∨
  ∃ cap' arr',v' = .slice (some ⟨w.heap.size,0,none⟩) (n + m) cap' ∧ n + m ≤ cap' ∧ cap' ≤ maxLen ∧ arr'.size = cap' * size ∧ w'.heap = (w.alloc (.cells arr' e (0,0))).heap ∧
   arr'.toList.take ((n + m) * size) = olds ++ news ∧ ∀ (k:Nat) (v:Value),arr'[k]? = some v → v.oneCell' = true
theorem Zd0 {g:G} {w:World} {t ty u e:TypeId} {i:TypeInfo} {z:Value} {size:Nat} (ht:P.underlying t = some (.slice e)) (hu:∃ d,P.underlying u = some d ∧ ∀ k,d ≠ .int k)
  (hi:P.info? e = some i) (hz:i.zero = some z) (hsize:i.size = size) (hzs:z.cells.size = size) (hz1:∀ (k:Nat) (v:Value),z.cells[k]? = some v → v.oneCell' = true) (hpos:0 < size)
  {v ry:Value} {n:Nat} {olds:List Value} {ys:List V} {l:Bool} {news:List Value} (hsrc:Src P g w size ys ry l news)
  (hv:((∃ A,v = .slice A 0 0) ∧ n = 0 ∧ olds = []) ∨ ∃ gb o0 cap cur,v = .slice (some ⟨gb,o0,none⟩) n cap ∧ w.heap[gb]? = some (.cells cur e (0,0)) ∧ n ≤ cap ∧ o0 + cap * size ≤ cur.size ∧ (cur.toList.drop o0).take (n * size) = olds)
  (hone:∀ x ∈ olds,x.oneCell' = true) (hbytes:(n + ys.length) * i.bytes ≤ 140737488355328) (h63:n + ys.length ≤ maxLen) :
  ∃ v' w',(Builtin.append_ #[t,u] ty #[v,ry]).run P w = .ok v' w' ∧ Appended w e size v n ys.length olds news v' w':=by
 obtain ⟨d,hud,hd⟩:=hu
 subst hsize
 have hml:maxLen < 9223372036854775807 + 1:=by unfold maxLen; omega
 have one_all:∀ cap,∀ (k:Nat) (x:Value),(olds.toArray ++ news.toArray ++ Builtin.zeroCells z.cells cap)[k]? = some x → x.oneCell' = true:=by
  intro cap k x hk
  have hm:x ∈ (olds.toArray ++ news.toArray ++ Builtin.zeroCells z.cells cap):=Array.mem_of_getElem? hk
  simp only [Array.mem_append,List.mem_toArray] at hm
  rcases hm with (hm | hm) | hm
  ·exact hone x hm
  ·exact hsrc.one x hm
  ·obtain ⟨k,hk2⟩:=Array.getElem?_of_mem hm
   exact hz1 _ x (ZbW (by rw [hzs]; exact hpos) hk2).1
 have grown:∀ (A:Option Addr) (c:Nat),c < n + ys.length → v = .slice A n c → olds.length = n * i.size → (Builtin.firstCells i.size n v).run P w.drew = .ok olds.toArray w.drew →
   ∃ v' w',(Builtin.append_ #[t,u] ty #[v,ry]).run P w = .ok v' w' ∧ Appended w e i.size v n ys.length olds news v' w':=by
  intro A c hc hvv hol hf
  have hn:¬ (n + ys.length ≤ c):=by omega
  have h63':¬ (9223372036854775807 < ((n:Int) + (ys.length:Int))):=by unfold maxLen at h63; omega
  have h48':¬ (281474976710656 < Builtin.nextslicecap (n + ys.length) c * i.bytes):=by have:=growslice_fits hc hbytes; omega
  have hb0:¬ (9223372036854775807 < ((n:Int) + (ys.length:Int)) ∧ i.bytes = 0):=fun h=>h63' h.1
  have hge:=grownCap_ge w (n + ys.length) c e
  refine ⟨.slice (some ⟨w.heap.size,0,none⟩) (n + ys.length) (grownCap w (n + ys.length) c e),w.drew.alloc (.cells (olds.toArray ++ news.toArray ++ Builtin.zeroCells z.cells (grownCap w (n + ys.length) c e - (n + ys.length))) e),?_,
   rfl,rfl,rfl,.inr (.inr ⟨_,_,rfl,hge,grownCap_le_maxLen w _ c e h63,?_,rfl,?_,one_all _⟩)⟩
  ·have hfx:=hsrc.first w.drew rfl
   subst hvv
   simp only [Builtin.append_]
   simp [Zag ht,Zag hud,ZaG hi]
   cases d <;> first | exact absurd rfl (hd _) | skip
   all_goals simp [hsrc.len,hn,h63',h48',hb0,typeInfo,hi,zeroValue,hz,Question.forced,hf,hfx,newRow,grownCap]
   all_goals (congr 2; apply Array.ext'; simp [List.append_assoc])
  ·simp only [Array.size_append,List.size_toArray,size_zeroCells,hzs,hol,hsrc.nlen,← Nat.add_mul]
   congr 1
   omega
  ·have hlen:(olds ++ news).length = (n + ys.length) * i.size:=by rw [List.length_append,hol,hsrc.nlen,Nat.add_mul]
   simp only [Array.toList_append,List.append_assoc]
   rw [← List.append_assoc,← hlen]
   exact List.take_left
 rcases hv with ⟨⟨A,rfl⟩,rfl,rfl⟩ | ⟨gb,o0,cap,cur,rfl,hg,hnc,hcs,htake⟩
 ·by_cases hm:ys.length = 0
  ·refine ⟨.slice A 0 0,w,?_,rfl,rfl,rfl,.inl ⟨rfl,rfl,rfl,hm,A,rfl⟩⟩
   have hfx:=hsrc.first w rfl
   have hnews:news = []:=List.eq_nil_of_length_eq_zero (by rw [hsrc.nlen,hm,Nat.zero_mul])
   rw [hm,hnews] at hfx
   simp only [Builtin.append_]
   simp [Zag ht,Zag hud,ZaG hi]
   cases d <;> first | exact absurd rfl (hd _) | skip
   all_goals (simp [hsrc.len,hm,hfx]; cases A <;> simp [storeCells])
  ·refine grown A 0 (by omega) rfl (by simp) ?_
   cases A with
   | none=>simp [Builtin.firstCells]
   | some a=>simp [Builtin.firstCells,loadCells,loadCellsFrom]
 ·have hol:olds.length = n * i.size:=by
   rw [← htake]; simp
   have:=Nat.mul_le_mul_right i.size hnc
   omega
  by_cases hroom:n + ys.length ≤ cap
  ·have hfit:o0 + n * i.size + news.length ≤ cur.size:=by
    rw [hsrc.nlen,Nat.add_assoc,← Nat.add_mul]
    exact Nat.le_trans (Nat.add_le_add_left (Nat.mul_le_mul_right _ hroom) _) hcs
   refine ⟨.slice (some ⟨gb,o0,none⟩) (n + ys.length) cap,w.setRow gb (cur.toList.take (o0 + n * i.size) ++ news ++ cur.toList.drop (o0 + n * i.size + news.length)).toArray,?_,rfl,rfl,rfl,.inr (.inl ⟨gb,o0,cap,cur,rfl,hg,hroom,hcs,htake,rfl,rfl⟩)⟩
   have hfx:=hsrc.first w rfl
   have hst:=run_storeCells_at P gb (o0 + n * i.size) e news 0 cur w hg (by simpa using hfit) hsrc.one
   simp only [Nat.add_zero] at hst
   simp only [Builtin.append_]
   simp [Zag ht,Zag hud,ZaG hi]
   cases d <;> first | exact absurd rfl (hd _) | skip
   all_goals simp [hsrc.len,hroom,hfx,ZbL,hst]
  ·refine grown _ cap (by omega) rfl hol ?_
   refine run_firstCells_some w.drew _ _ _ _ _ _ hol fun k x hk=>?_
   rw [ZbL]
   have hk':nth olds k = some x:=by rw [Zad]; exact hk
   rw [← htake] at hk'
   have:=ZbQ (ZbP hk').1
   exact Zap (w:=w.drew) hg (by rw [← Za6,Array.toArray_toList] at this; exact this)
end
end Go.VM
