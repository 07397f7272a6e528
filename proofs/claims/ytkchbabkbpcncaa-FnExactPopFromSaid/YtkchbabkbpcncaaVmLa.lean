/- Conversions, also of bytes to a string. -/
import Derived.Test.YtkchbabkbpcncaaVmL
import Derived.Lib.ConvBytes
set_option linter.unusedSimpArgs false
set_option linter.unusedVariables false
namespace Go.VM
open Go.RowKit Go.Lib
section
variable {P:Program} {C:Cfg} {o:Oper} {E:List V} {s:S}
theorem ZjT:∀ {ys:List V} {xs:List Int},Zvx ys = some xs → ys = xs.map (fun n=>V.int .u8 n)
 | [],xs,h=>by simp [Zvx] at h; subst h; rfl
 | y :: ys,xs,h=>by
  unfold Zvx at h
  split at h <;> first | (cases h; done) | skip
  ·rename_i heq; cases heq
  ·rename_i n l heq
   injection heq with h1 h2
   subst h1 h2
   split at h <;> first | (cases h; done) | skip
   rename_i xs' hx
   obtain rfl:=Option.some.inj h
   rw [ZjT hx]; rfl
theorem Zqv {g:G} {w:World} {xs:List Int} {ry:Value} {l:Bool} {news:List Value} (h:Src P g w 1 (xs.map (fun n=>V.int .u8 n)) ry l news):news = xs.map (Value.int .u8):=by
 apply List.ext_getElem?
 intro i
 by_cases hi:i < xs.length
 ·have h1:nth (xs.map (fun n=>V.int .u8 n)) i = some (V.int .u8 xs[i]):=by rw [Zad,List.getElem?_map,List.getElem?_eq_getElem hi]; rfl
  obtain ⟨_,rv,h2,h3,_⟩:=h.cell i _ 0 _ h1 rfl
  rw [h3.int_inv,Nat.mul_one,Nat.add_zero,Zad] at h2
  rw [h2,List.getElem?_map,List.getElem?_eq_getElem hi]; rfl
 ·have hl:=h.nlen
  rw [List.length_map,Nat.mul_one] at hl
  rw [List.getElem?_eq_none (by omega),List.getElem?_eq_none (by rw [List.length_map]; omega)]
theorem ZkL {g:G} {w:World} {src dst e:TypeId} {xs:List Int} {ry:Value} {l:Bool} {news:List Value} (hs:P.underlying src = some (.slice e)) (he:P.underlying e = some (.int .u8)) (hd:P.underlying dst = some .string)
  (hsl:∃ A n c,ry = .slice A n c) (h:Src P g w 1 (xs.map (fun n=>V.int .u8 n)) ry l news):(convert src dst ry).run P w = .ok (.string (strOfNums xs)) w:=by
 obtain ⟨A,n,c,rfl⟩:=hsl
 have hn:n = xs.length:=by
  have h1:=h.len
  have h2:(Builtin.lenOf (.slice A n c)).run P w = .ok n w:=rfl
  rw [h1,List.length_map] at h2
  have h3:(pure xs.length:Sem Nat).run P w = .ok xs.length w:=rfl
  rw [h3] at h2
  injection h2 with h2 _
  exact h2.symm
 subst hn
 rw [run_convert_bytes_string w src dst e _ _ c hs he hd]
 have hf:=h.first w rfl
 rw [Zqv h,List.length_map] at hf
 cases A with
 | none =>
  have h2:(Builtin.firstCells 1 xs.length (.slice none xs.length c)).run P w = .ok #[] w:=rfl
  rw [h2] at hf
  injection hf with hf _
  have h4:=congrArg Array.size hf
  simp at h4
  have:xs = []:=List.eq_nil_of_length_eq_zero (by omega)
  subst this
  simp [Conv.bytesToString,strOfNums,ByteArray.empty,ByteArray.emptyWithCapacity]
  try rfl
 | some a =>
  have h2:Builtin.firstCells 1 xs.length (.slice (some a) xs.length c) = loadCells a (xs.length * 1):=rfl
  rw [h2,Nat.mul_one] at hf
  rw [run_bytesToString w a _ c xs hf,foldl_push_bytes]
  simp [strOfNums,ByteArray.empty,ByteArray.emptyWithCapacity]
  try rfl
theorem ZjL {k:Option IntKind} (h:Zu5 k = true):k = some .u8:=by
 unfold Zu5 at h
 split at h
 ·rfl
 ·cases h
theorem Zmy {src dst e:TypeId} {x:Operand} {b:ByteArray} (hs:P.underlying src = some .string) (hd:P.underlying dst = some (.slice e)) (he:P.underlying e = some (.int .u8)) (ho:o.op = .convert src dst x) (hx:ev E x = some (.str b)) :
  Zbi P C o E s (.list 1 (Zdr b) .sh) E s:=by
 refine ⟨Nat.le_refl _,fun g a w keep hkeep hsim next Q hnext=>?_⟩
 have e1:a.eval x = .string b:=(hsim.ev hx).1.str_inv
 have hrun:=run_convert_string_bytes (P:=P) w src dst e b hs hd he
 have hsize:w.heap.size ≤ (bytesWorld w e b).heap.size:=by rw [bytesWorld_size]; omega
 have hlow:∀ j,j < w.heap.size → (bytesWorld w e b).heap[j]? = w.heap[j]?:=fun j hj=>bytesWorld_at_old w e b j hj
 have hN:∀ j i,(j = w.heap.size ∧ i < b.size) → w.heap.size ≤ j ∧ j < (bytesWorld w e b).heap.size:=fun j i h=>by
  rw [bytesWorld_size,h.1]; omega
 obtain ⟨k1,kk⟩:=hsim.more hsize hlow (fun j i=>j = w.heap.size ∧ i < b.size) hN
 have k2:=Le.more hsim hsize hlow rfl rfl rfl (fun j i=>j = w.heap.size ∧ i < b.size) hN hkeep
 have hx1:(execOp a.eval o).run P w = .ok (.value (.slice (some ⟨w.heap.size,0,none⟩) b.size (grownCap w b.size 0 e))) (bytesWorld w e b):=by
  simp [execOp,ho,e1,hrun,Result.andThen]
 unfold Oper.wp
 rw [hx1]
 have hcell:∀ i el j c,nth (Zdr b) i = some el → nth el.cells j = some c → i < b.size ∧ j = 0 ∧ c = .int .u8 (b.data.toList.getD i 0).toNat:=by
  intro i el j c hi hj
  obtain ⟨y,hy,rfl⟩:=Zac hi
  have hlt:i < b.size:=by have:=Zau hy; simpa using this
  cases j with
  | succ j=>simp [V.cells,nth] at hj
  | zero =>
   simp [V.cells,nth] at hj
   subst hj
   refine ⟨hlt,rfl,?_⟩
   rw [Zad] at hy
   rw [List.getD_eq_getElem?_getD,hy]; rfl
 refine hnext _ _ _ k2 (k1.put0 o.dst (.data (.list 1 (Zdr b) .sh _ b.size (grownCap w b.size 0 e) w.heap.size 0 (fun i _=>.int .u8 (b.data.toList.getD i 0).toNat) (by simp [Zdr]) (grownCap_ge w _ _ _) (by simp) (.inr rfl) ?_ ?_ ?_ ?_ ?_)) (by simp [V.still]))
 ·intro i el hi
  obtain ⟨y,_,rfl⟩:=Zac hi
  rfl
 ·intro i el j c hi hj
  obtain ⟨_,_,rfl⟩:=hcell i el j c hi hj
  rfl
 ·intro i el j c hi hj
  obtain ⟨h1,rfl,_⟩:=hcell i el j c hi hj
  show (_ ∨ _)
  exact .inr ⟨rfl,by omega⟩
 ·intro i el j c hi hj
  obtain ⟨h1,rfl,_⟩:=hcell i el j c hi hj
  have:=bytesWorld_cell w e b i h1
  rw [show 0 + i * 1 + 0 = i by omega]
  exact this
 ·intro i el j c hi hj
  obtain ⟨h1,rfl,rfl⟩:=hcell i el j c hi hj
  exact .int _ _
theorem Zok {R:Type} (hC:Ok P C) {src dst:TypeId} {x:Operand} {a:V} {K:V → Option R} {r:R} (hks:(C.ty src).known = true) (hk:(C.ty dst).known = true) (ho:o.op = .convert src dst x) (hx:ev E x = some a)
  (h:ZuO C src dst s a K = some r):∃ v,K v = some r ∧ Zbi P C o E s v E s:=by
 unfold ZuO at h
 split at h
 ·rename_i e he
  obtain ⟨h1,h2⟩:=Zaa h
  simp only [Bool.and_eq_true] at h1
  obtain ⟨⟨hke,hst⟩,hu8⟩:=h1
  have hsl:=(hC.ty src hks).elem e he
  have hd:=(hC.ty dst hk).str hst
  have hu:P.underlying e = some (.int .u8):=by
   unfold Zu5 at hu8
   split at hu8
   ·rename_i hkd; exact (hC.ty e hke).kind _ hkd
   ·cases hu8
  have hform:(∃ sz es f,a = .list sz es f) ∨ ∃ o' ver off len,a = .arr o' ver off len:=by
   unfold ZcM at h2
   split at h2 <;> first | (cases h2; done) | skip
   ·exact .inl ⟨_,_,_,rfl⟩
   ·exact .inr ⟨_,_,_,_,rfl⟩
  obtain ⟨ys,h3,h4⟩:=Zhp (P:=P) (s:=s) (by omega) h2
  split at h3 <;> first | (cases h3; done) | skip
  rename_i xs hxs
  refine ⟨_,h3,Zbi.calm (by simp [V.still]) fun g ac w hs=>?_⟩
  have hv:=(hs.ev hx).1
  obtain ⟨l,news,hsrc⟩:=h4 C g E ac w _ hs hv
  have hrs:∃ A n c,ac.eval x = .slice A n c:=by
   generalize ac.eval x = rv at hv
   rcases hform with ⟨sz,es,f,rfl⟩ | ⟨o',ver,off,len,rfl⟩
   ·have:=hv.list_inv
    cases this
    exact ⟨_,_,_,rfl⟩
   ·cases hv with
    | data h=>cases h
    | arr=>exact ⟨_,_,_,rfl⟩
  rw [ZjT hxs] at hsrc
  have hrun:=ZkL hsl hu hd hrs hsrc
  exact ⟨.string (strOfNums xs),by simp [execOp,ho,hrun,Result.andThen],.data (.str _)⟩
 ·split at h
  ·rename_i e he
   obtain ⟨h1,h2⟩:=Zaa h
   simp only [Bool.and_eq_true] at h1
   obtain ⟨⟨hke,hst⟩,hu8⟩:=h1
   unfold Zru at h2
   split at h2 <;> first | (cases h2; done) | skip
   exact ⟨_,h2,Zmy ((hC.ty src hks).str hst) ((hC.ty dst hk).elem e he) ((hC.ty e hke).kind _ (ZjL hu8)) ho hx⟩
  ·obtain ⟨v,hv,h4⟩:=Zae h
   refine ⟨v,h4,Ztg hC hk ?_ ho hx hv⟩
   have:=(hC.ty src hks).agg
   split at this
   ·obtain ⟨fs,hf⟩:=this
    exact ⟨_,hf⟩
   ·obtain ⟨d,hd,_⟩:=this
    exact ⟨_,hd⟩
end
end Go.VM
