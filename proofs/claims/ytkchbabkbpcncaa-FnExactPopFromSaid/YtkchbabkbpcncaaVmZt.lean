/- slices.Delete of ints, by its contract: on an object of any version. -/
import Derived.Test.YtkchbabkbpcncaaVmZs
import Derived.Shelf.Slices.Delete
set_option linter.unusedSimpArgs false
set_option linter.unusedVariables false
namespace Go.VM
open Go.RowKit Go.Lib
def ZdG:List V → Option (List Int)
 | []=>some []
 | .int .i64 n :: l=>match ZdG l with
  | some xs=>some (n :: xs)
  | none=>none
 | _=>none
theorem Zjr:∀ {es:List V} {xs:List Int},ZdG es = some xs → es = xs.map (V.int .i64)
 | [],xs,h=>by obtain rfl:=Option.some.inj h; rfl
 | v :: l,xs,h=>by
  unfold ZdG at h
  split at h
  ·rename_i he; cases he
  ·rename_i n l' he
   obtain ⟨rfl,rfl⟩:=List.cons.inj he
   cases hl:ZdG l with
   | none=>rw [hl] at h; cases h
   | some bs =>
    rw [hl] at h
    obtain rfl:=Option.some.inj h
    rw [Zjr hl]; rfl
  ·cases h
theorem Zib {P : Program} {C : Cfg} {f : FuncId} {fn : Func} (hf : P.funcs[f]? = some fn) (hb : fn.body.isNone = false) (hname : (fn.name == "runtime.NumGoroutine") = false)
  (h1:∀ (blk off cap i j:Nat) (zs:List Int) (w:World),Sort.Holds (Value.int .i64) w blk off zs.toArray → zs.length ≤ cap → cap ≤ 9223372036854775807 → i ≤ j → j ≤ zs.length →
   Calls P f #[.slice (some ⟨blk,off,none⟩) zs.length cap,.int .i64 i,.int .i64 j] w fun e w'=>e = .returned (.slice (some ⟨blk,off,none⟩) (zs.length - (j - i)) cap) ∧
    ∃ q,w' = Sort.putRow (Value.int .i64) (Sort.ahead w q) blk off (zs.take i ++ zs.drop j ++ List.replicate (j - i) 0).toArray)
  {s:S} {oo ver i j:Nat} {ob:Ob} {xs:List Int} (hob:Zbs s oo ver = some ob) (hx:ZdG ob.es = some xs) (hesz:ob.esz = 1) (hne:0 < ob.es.length) (hij:i ≤ j) (hj:j ≤ ob.es.length) :
  ZaW P C f [.arr oo ver 0 ob.es.length,.int .i64 (i:Int),.int .i64 (j:Int)] s (.arr oo ver 0 (ob.es.length - (j - i))) (Zai s oo (some { ob with es:=ob.es.take i ++ ob.es.drop j })):=by
 refine ⟨by simp [V.still],by rw [Zak]; exact Nat.le_refl _,fun g w rvs keep hk hs hl hargs=>?_⟩
 obtain ⟨a,rfl,ha⟩:∃ a,rvs = #[a,.int .i64 i,.int .i64 j] ∧ VR g w (.arr oo ver 0 ob.es.length) a:=by
  match hq:rvs.toList,(by simpa using hl:3 = rvs.toList.length) with
  | [a,b,c],_ =>
   have h0:rvs[0]? = some a:=by rw [← Array.getElem?_toList,hq]; rfl
   have h1:rvs[1]? = some b:=by rw [← Array.getElem?_toList,hq]; rfl
   have h2:rvs[2]? = some c:=by rw [← Array.getElem?_toList,hq]; rfl
   have e1:=(hargs 1 _ b rfl h1).1
   have e2:=(hargs 2 _ c rfl h2).1
   cases e1 with
   | data e1 =>
    cases e2 with
    | data e2 =>
     cases e1; cases e2
     exact ⟨a,by apply Array.ext'; simpa using hq,(hargs 0 _ a rfl h0).1⟩
  | [],h=>simp at h
  | [_],h=>simp at h
  | [_,_],h=>simp at h
  | _ :: _ :: _ :: _ :: _,h=>simp at h
 obtain ⟨q1,q2⟩:=ZaY hob
 obtain ⟨x,hx',hr⟩:=hs.obj oo ob q1
 obtain ⟨arr,cap,b1,b2,b3,b4,b5,b7,b6⟩:=hr.blk
 have hes:=Zjr hx
 have hlen:ob.es.length = xs.length:=by rw [hes,List.length_map]
 cases ha with
 | data h=>cases h
 | arr _ _ _ _ A cc hcc hlt hh =>
  obtain ⟨hv1,hh2⟩:=hh x hx'
  obtain ⟨hA,hcap⟩:=hh2 (by rw [hr.ver]; exact q2)
  have hxe:x.2.2.1 = 1:=by rw [hr.esz]; exact hesz
  have hpx:0 < x.2.2.2.1:=by rw [← b2,b3,hesz]; omega
  have b1:=b1 hpx
  let bo:=x.2.2.2.2
  have hAeq:A = some ⟨x.2.1,bo,none⟩:=by
   rcases hA with h | h
   ·omega
   ·rw [h,hxe,Nat.mul_one,Nat.add_zero]
  subst hAeq
  rw [hxe,Nat.mul_one,Nat.add_zero] at hcap
  have hsz:arr.size = bo + cap:=by rw [b3,hesz,Nat.mul_one]
  have hat:∀ k,k < ob.es.length → ∃ b,xs[k]? = some b ∧ arr[bo + k]? = some (.int .i64 b):=by
   intro k hk
   have hkx:k < xs.length:=by omega
   have he:nth ob.es k = some (.int .i64 xs[k]):=by rw [Zad,hes,List.getElem?_map,List.getElem?_eq_getElem hkx]; rfl
   obtain ⟨rv,r1,r2,_⟩:=b6 k _ 0 (.int .i64 xs[k]) he rfl
   rw [hesz,Nat.mul_one,Nat.add_zero] at r1
   refine ⟨xs[k],List.getElem?_eq_getElem hkx,?_⟩
   cases r2 with
   | data h=>cases h; exact r1
  have hH:Sort.Holds (Value.int .i64) w x.2.1 bo xs.toArray:=by
   intro k hk
   have hk':k < xs.length:=by simpa using hk
   obtain ⟨b,hb1,hb2⟩:=hat k (by omega)
   have hg:xs.toArray[k]! = b:=by
    rw [getElem!_pos _ k hk]
    simpa using (List.getElem?_eq_some_iff.1 hb1).2
   rw [hg]
   refine ⟨Zap b1 hb2,?_⟩
   have hkl:bo + k < arr.size:=(Array.getElem?_eq_some_iff.1 hb2).1
   have hfz:=C.fz_free ob.ver arr.size (bo + k) hkl
   generalize C.fz ob.ver arr.size = z at b1 hfz
   obtain ⟨lo,hi'⟩:=z
   simp only at hfz
   simp only [World.frozen?,b1,Bool.and_eq_false_iff,decide_eq_false_iff_not]
   omega
  have hml:maxLen ≤ 9223372036854775807:=by decide
  have hccm:cc ≤ 9223372036854775807:=by
   have:bo + cc ≤ bo + cap:=by rw [← hsz,b2]; exact hcap
   omega
  have hcalls:=h1 x.2.1 bo cc i j xs w hH (by omega) hccm hij (by omega)
  rw [← hlen] at hcalls
  refine Zft.of_calls hf hb hname (hcalls.mono fun ev w' ⟨he,q,hw⟩=>⟨_,he,g,?_⟩)
  subst hw
  have hs0:Sim C g [] s ZaI (Sort.ahead w q):=hs.ext (Nat.le_refl _) fun _ _=>rfl
  have hle0:∀ keep,keep ≤ s.length → Le keep g w g (Sort.ahead w q):=fun keep hk=>by
   have:=Le.refl (g:=g) (w:=w) (keep:=keep) (by rw [hs.olen]; exact hk)
   exact ⟨⟨this.keeps.imm,this.keeps.safe,this.keeps.cell⟩,this.size,this.os,this.tape,this.output,this.base,this.susp,this.low,this.sus,this.klen,this.obs⟩
  let D:List Int:=xs.take i ++ xs.drop j ++ List.replicate (j - i) 0
  have hDl:D.toArray.size = xs.length:=by simp [D]; omega
  generalize harr2:Sort.putCells (Value.int .i64) bo D.toArray arr = arr2
  have hrowW:Sort.putRow (Value.int .i64) (Sort.ahead w q) x.2.1 bo D.toArray = (Sort.ahead w q).setRow x.2.1 arr2:=by
   unfold Sort.putRow
   rw [Sort.mapBlock_congr (g:=fun _=>arr2) _ _ _ fun c e fr hc=>by
    have hc':w.heap[x.2.1]? = some (.cells c e fr):=hc
    rw [b1] at hc'
    obtain ⟨rfl,_⟩:arr = c ∧ True:=by
     have:=Option.some.inj hc'
     injection this with h1 h2 h3
     exact ⟨h1,trivial⟩
    exact harr2]
   unfold Sort.mapBlock World.setRow
   congr 2
  rw [hrowW]
  have hnew:ob.es.take i ++ ob.es.drop j = (xs.take i ++ xs.drop j).map (V.int .i64):=by rw [hes,List.map_append,List.map_take,List.map_drop]
  have hel:∀ k e,nth (ob.es.take i ++ ob.es.drop j) k = some e → ∃ b,(xs.take i ++ xs.drop j)[k]? = some b ∧ e = .int .i64 b:=by
   intro k e h
   rw [hnew] at h
   obtain ⟨y,hy,rfl⟩:=Zac h
   rw [Zad] at hy
   exact ⟨y,hy,rfl⟩
  have harrs:arr2.size = arr.size:=by rw [← harr2]; unfold Sort.putCells; simp
  have hin:∀ (k:Nat) (b:Int),(xs.take i ++ xs.drop j)[k]? = some b → arr2[bo + k]? = some (Value.int .i64 b):=by
   intro k b hb
   have hkl:=(List.getElem?_eq_some_iff.1 hb).1
   have hk2:k < xs.length:=by simp at hkl; omega
   have hka:bo + k < arr.size:=by rw [hsz]; omega
   have hDk:D.toArray[k]! = b:=by
    rw [getElem!_pos _ k (by rw [hDl]; exact hk2)]
    have:D[k]? = some b:=by
     show (xs.take i ++ xs.drop j ++ List.replicate (j - i) 0)[k]? = some b
     rw [List.getElem?_append_left hkl]; exact hb
    simpa using (List.getElem?_eq_some_iff.1 this).2
   rw [← harr2]
   unfold Sort.putCells
   rw [Array.getElem?_mapIdx,Array.getElem?_eq_getElem hka,Option.map_some,if_pos ⟨Nat.le_add_right _ _,by rw [hDl]; omega⟩,Nat.add_sub_cancel_left,hDk]
  have hrow:=hs0.row q1 hx' hpx arr2 (ob.es.take i ++ ob.es.drop j) (by rw [harrs,b2]) (by simp; omega)
   (fun k v hk=>by
    rw [← harr2] at hk
    unfold Sort.putCells at hk
    rw [Array.getElem?_mapIdx] at hk
    cases ha:arr[k]? with
    | none=>rw [ha] at hk; cases hk
    | some u =>
     rw [ha,Option.map_some] at hk
     have hv:=Option.some.inj hk
     split at hv
     ·rw [← hv]; rfl
     ·rw [← hv]; exact b7 k u ha)
   (fun k e hi=>by obtain ⟨b,_,rfl⟩:=hel k e hi; rw [hesz]; rfl)
   (fun k e j c hi hj=>by
    obtain ⟨b,_,rfl⟩:=hel k e hi
    cases j with
    | zero=>simp only [V.cells,nth] at hj; rw [← Option.some.inj hj]; rfl
    | succ j=>simp [V.cells,nth] at hj)
   (fun k e j c hi hj=>by
    obtain ⟨b,hb,rfl⟩:=hel k e hi
    cases j with
    | zero =>
     simp only [V.cells,nth] at hj
     rw [← Option.some.inj hj]
     refine ⟨.int .i64 b,?_,.data (.int _ b),ZnX rfl⟩
     rw [hesz,Nat.mul_one,Nat.add_zero]
     exact hin k b hb
    | succ j=>simp [V.cells,nth] at hj)
   0 0 (fun k e j c rv b hi hj hown _ _=>by
    exfalso
    obtain ⟨b,_,rfl⟩:=hel k e hi
    cases j with
    | zero=>simp only [V.cells,nth] at hj; rw [← Option.some.inj hj] at hown; exact Zjx rfl hown
    | succ j=>simp [V.cells,nth] at hj)
  refine ⟨(hle0 keep hk).trans (hrow.2 keep hk),hrow.1,.arr oo ver 0 _ _ cc (by omega) hlt fun x2 hx2=>?_⟩
  rw [hx'] at hx2
  obtain rfl:=Option.some.inj (Option.some.inj hx2)
  exact hh x hx'
def Zw3 {R:Type} (v:V) (i j:Int) (s:S) (K:V → S → Option R):Option R :=
 match v with
 | .arr oo ver off n=>match Zbs s oo ver with
  | some ob=>match Nat.beq ob.esz 1 && Nat.beq off 0 && Nat.beq n ob.es.length && (ZdG ob.es).isSome && decide (0 < ob.es.length) && decide (0 ≤ i) && decide (i ≤ j) && decide (j ≤ (ob.es.length:Int)) with
   | true=>K (.arr oo ver 0 (ob.es.length - (j.toNat - i.toNat))) (Zai s oo (some { ob with es:=ob.es.take i.toNat ++ ob.es.drop j.toNat }))
   | false=>none
  | none=>none
 | _=>none
theorem Zua {P : Program} {C : Cfg} {f : FuncId} {fn : Func} (hf : P.funcs[f]? = some fn) (hb : fn.body.isNone = false) (hname : (fn.name == "runtime.NumGoroutine") = false)
  (h1:∀ (blk off cap i j:Nat) (zs:List Int) (w:World),Sort.Holds (Value.int .i64) w blk off zs.toArray → zs.length ≤ cap → cap ≤ 9223372036854775807 → i ≤ j → j ≤ zs.length →
   Calls P f #[.slice (some ⟨blk,off,none⟩) zs.length cap,.int .i64 i,.int .i64 j] w fun e w'=>e = .returned (.slice (some ⟨blk,off,none⟩) (zs.length - (j - i)) cap) ∧
    ∃ q,w' = Sort.putRow (Value.int .i64) (Sort.ahead w q) blk off (zs.take i ++ zs.drop j ++ List.replicate (j - i) 0).toArray)
  {R:Type} {a:V} {i j:Int} {s:S} {K:V → S → Option R} {r:R} (h:Zw3 a i j s K = some r):∃ v s',K v s' = some r ∧ ZaW P C f [a,.int .i64 i,.int .i64 j] s v s':=by
 unfold Zw3 at h
 cases a <;> simp only at h <;> first | (cases h; done) | skip
 rename_i oo ver off n
 cases hob:Zbs s oo ver with
 | none=>rw [hob] at h; cases h
 | some ob =>
  rw [hob] at h
  simp only at h
  split at h
  ·rename_i hc
   simp only [Bool.and_eq_true,decide_eq_true_eq] at hc
   obtain ⟨⟨⟨⟨⟨⟨⟨c1,c2⟩,c3⟩,c4⟩,c5⟩,c6⟩,c7⟩,c8⟩:=hc
   obtain rfl:=Nat.eq_of_beq_eq_true c2
   obtain rfl:=Nat.eq_of_beq_eq_true c3
   obtain ⟨xs,hx⟩:=Option.isSome_iff_exists.1 c4
   have hi:i = ((i.toNat:Nat):Int):=by omega
   have hj:j = ((j.toNat:Nat):Int):=by omega
   refine ⟨_,_,h,?_⟩
   rw [hi,hj]
   simp only [Int.toNat_natCast]
   exact Zib hf hb hname h1 hob hx (Nat.eq_of_beq_eq_true c1) c5 (by omega) (by omega)
  ·cases h
end Go.VM
