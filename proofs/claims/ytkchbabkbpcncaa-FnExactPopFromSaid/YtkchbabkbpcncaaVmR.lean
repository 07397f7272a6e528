/- Regions, codes, loops. -/
import Derived.Test.YtkchbabkbpcncaaVmRi
import Derived.Control
import Derived.Scope
set_option linter.unusedSimpArgs false
set_option linter.unusedVariables false
namespace Go.VM
open Go.RowKit Go.Lib
section
variable {P:Program} {C:Cfg} {o:Oper} {E:List V} {s:S} {R:Type}
def X.exit':X → Exit
 | .norm=>.normal
 | .ret=>.ret
 | .exit id=>.exit id
def ZrE (C:Cfg) (keep:Nat):Prop:=∀ n,C.kp = some n → keep ≤ n
def ZqR (P:Program) (C:Cfg) (c:Code) (E:List V) (s:S) (x:X) (E':List V) (s':S):Prop :=
 s.length ≤ s'.length ∧ ∀ g a w keep,keep ≤ s.length → ZrE C keep → Sim C g E s a w → ∀ Q:Exit → Act → World → Prop,
  (∀ g' a' w',Le keep g w g' w' → Sim C g' E' s' a' w' → a'.defers = a.defers → Q x.exit' a' w') → c.wp P Q a w
def Zbt (P:Program) (C:Cfg) (Λ:ZaB) (b:Code) (path:List Nat):Prop :=
 ∀ (R:Type) (E:List V) (s:S) (K:X → List V → S → Option R) (r:R),Λ R path E s K = some r → ∃ x E' s',K x E' s' = some r ∧ ZqR P C (.loop b) E s x E' s'
def ZaR (P:Program) (C:Cfg) (Λ:ZaB):Code → List Nat → Prop
 | .seq a b,w=>ZaR P C Λ a (0 :: w) ∧ ZaR P C Λ b (1 :: w)
 | .cond _ a b,w=>ZaR P C Λ a (0 :: w) ∧ ZaR P C Λ b (1 :: w)
 | .block _ b,w=>ZaR P C Λ b (0 :: w)
 | .scope b,w=>ZaR P C Λ b (0 :: w)
 | .loop b,w=>Zbt P C Λ b w
 | _,_=>True
theorem Zp7 (hC:Ok P C) {Φ:Zat} (hΦ:Zab P C Φ) {Λ:ZaB}:∀ {c:Code} {path:List Nat} {E:List V} {s:S} {K:X → List V → S → Option R} {r:R},ZaR P C Λ c path →
  Zh2 C Φ Λ c path E s K = some r → ∃ x E' s',K x E' s' = some r ∧ ZqR P C c E s x E' s':=by
 intro c
 induction c with
 | skip =>
  intro path E s K r _ h
  simp only [Zh2] at h
  exact ⟨_,_,_,h,Nat.le_refl _,fun g a w keep hk hkp hs Q hQ=>wp_skip (hQ g a w (Le.refl (by rw [hs.olen]; exact hk)) hs rfl)⟩
 | region id ops draw =>
  intro path E s K r _ h
  simp only [Zh2] at h
  cases draw with
  | true =>
   simp only at h
   obtain ⟨_,h⟩:=Zaa h
   split at h
   ·rename_i hd
    obtain ⟨E',h1,h3⟩:=Zth (id:=id) hC hΦ hd h
    exact ⟨.norm,E',s,h1,Nat.le_refl _,fun g a w keep hk hkp hs Q hQ=>h3 g a w keep hk hs Q hQ⟩
   ·obtain ⟨hb,h2⟩:=Zaa h
    obtain ⟨E',s',h1,hl1,h3⟩:=Zq7 (id:=id) hC hΦ hb h2
    exact ⟨.norm,E',s',h1,hl1,fun g a w keep hk hkp hs Q hQ=>h3 g a w keep hk hs Q hQ⟩
   ·obtain ⟨hb,h2⟩:=Zaa h
    obtain ⟨E1,s1,h1,hl1,h3⟩:=ZrO (id:=id) hC hΦ hb h2
    obtain ⟨E',s',h4,hl2,h5⟩:=Zrt hC hΦ h1
    refine ⟨.norm,E',s',h4,Nat.le_trans hl1 hl2,fun g a w keep hk hkp hs Q hQ=>h3 g a w keep hk hs Q fun g' a' w' hle hs' hd=>?_⟩
    have:=h5 g' a' w' keep (Nat.le_trans hk hl1) hs' Q fun g'' a'' w'' hle' hs'' hd'=>hQ g'' a'' w'' (hle.trans hle') hs'' (hd'.trans hd)
    rwa [Array.toArray_toList] at this
  | false =>
   simp only at h
   obtain ⟨E',s',h1,h2,h3⟩:=Zrt hC hΦ h
   refine ⟨.norm,E',s',h1,h2,fun g a w keep hk hkp hs Q hQ=>wp_region_list ?_⟩
   have:=h3 g a w keep hk hs Q hQ
   rwa [Array.toArray_toList] at this
 | seq a b iha ihb =>
  intro path E s K r hl h
  obtain ⟨hla,hlb⟩:=hl
  simp only [Zh2] at h
  obtain ⟨x,E1,s1,h1,hl1,h2⟩:=iha hla h
  cases x with
  | norm =>
   simp only at h1
   obtain ⟨x2,E2,s2,h3,hl2,h4⟩:=ihb hlb h1
   refine ⟨x2,E2,s2,h3,Nat.le_trans hl1 hl2,fun g a w keep hk hkp hs Q hQ=>wp_seq (h2 g a w keep hk hkp hs _ fun g' a' w' hle hs' hd=>?_)⟩
   exact h4 g' a' w' keep (Nat.le_trans hk hl1) hkp hs' Q fun g'' a'' w'' hle' hs'' hd'=>hQ g'' a'' w'' (hle.trans hle') hs'' (hd'.trans hd)
  | ret =>
   simp only at h1
   exact ⟨_,_,_,h1,hl1,fun g a w keep hk hkp hs Q hQ=>wp_seq (h2 g a w keep hk hkp hs _ fun g' a' w' hle hs' hd=>hQ g' a' w' hle hs' hd)⟩
  | exit id =>
   simp only at h1
   exact ⟨_,_,_,h1,hl1,fun g a w keep hk hkp hs Q hQ=>wp_seq (h2 g a w keep hk hkp hs _ fun g' a' w' hle hs' hd=>hQ g' a' w' hle hs' hd)⟩
 | cond c a b iha ihb =>
  intro path E s K r hl h
  obtain ⟨hla,hlb⟩:=hl
  simp only [Zh2] at h
  obtain ⟨cv,hc,h2⟩:=Zae h
  obtain ⟨t,rfl,h3⟩:=ZcN h2
  cases t with
  | true =>
   obtain ⟨x,E1,s1,h4,hl1,h5⟩:=iha hla h3
   exact ⟨x,E1,s1,h4,hl1,fun g a w keep hk hkp hs Q hQ=>wp_cond_true (hs.ev hc).1.bool_inv (h5 g a w keep hk hkp hs Q hQ)⟩
  | false =>
   obtain ⟨x,E1,s1,h4,hl1,h5⟩:=ihb hlb h3
   exact ⟨x,E1,s1,h4,hl1,fun g a w keep hk hkp hs Q hQ=>wp_cond_false (hs.ev hc).1.bool_inv (h5 g a w keep hk hkp hs Q hQ)⟩
 | block id b ih =>
  intro path E s K r hl h
  simp only [Zh2] at h
  obtain ⟨x,E1,s1,h1,hl1,h2⟩:=ih hl h
  cases x with
  | norm =>
   simp only at h1
   exact ⟨_,_,_,h1,hl1,fun g a w keep hk hkp hs Q hQ=>wp_block (h2 g a w keep hk hkp hs _ fun g' a' w' hle hs' hd=>hQ g' a' w' hle hs' hd)⟩
  | ret =>
   simp only at h1
   exact ⟨_,_,_,h1,hl1,fun g a w keep hk hkp hs Q hQ=>wp_block (h2 g a w keep hk hkp hs _ fun g' a' w' hle hs' hd=>hQ g' a' w' hle hs' hd)⟩
  | exit i =>
   simp only at h1
   by_cases hid:i = id
   ·rw [if_pos hid] at h1
    refine ⟨_,_,_,h1,hl1,fun g a w keep hk hkp hs Q hQ=>wp_block (h2 g a w keep hk hkp hs _ fun g' a' w' hle hs' hd=>?_)⟩
    simp only [X.exit',Exit.inBlock,hid,if_true]
    exact hQ g' a' w' hle hs' hd
   ·rw [if_neg hid] at h1
    refine ⟨_,_,_,h1,hl1,fun g a w keep hk hkp hs Q hQ=>wp_block (h2 g a w keep hk hkp hs _ fun g' a' w' hle hs' hd=>?_)⟩
    simp only [X.exit',Exit.inBlock,hid,if_false]
    exact hQ g' a' w' hle hs' hd
 | loop b ih =>
  intro path E s K r hl h
  exact hl R E s K r h
 | scope b ih =>
  intro path E s K r hl h
  simp only [Zh2] at h
  obtain ⟨x,E1,s1,h1,hl1,h2⟩:=ih hl h
  refine ⟨_,_,_,h1,hl1,fun g a w keep hk hkp hs Q hQ=>wp_scope_straight (h2 g a w keep hk hkp hs _ fun g' a' w' hle hs' hd=>?_)⟩
  have:=hQ g' a' w' hle hs' hd
  cases x <;> exact this
 | exit id =>
  intro path E s K r _ h
  simp only [Zh2] at h
  exact ⟨_,_,_,h,Nat.le_refl _,fun g a w keep hk hkp hs Q hQ=>wp_exit (hQ g a w (Le.refl (by rw [hs.olen]; exact hk)) hs rfl)⟩
 | ret =>
  intro path E s K r _ h
  simp only [Zh2] at h
  exact ⟨_,_,_,h,Nat.le_refl _,fun g a w keep hk hkp hs Q hQ=>wp_ret (hQ g a w (Le.refl (by rw [hs.olen]; exact hk)) hs rfl)⟩
 | rangeFunc=>intro path E s K r _ h; cases h
 | label=>intro path E s K r _ h; cases h
 | goto=>intro path E s K r _ h; cases h
 | refuse=>intro path E s K r _ h; cases h
def ZfP (P:Program) (c:Code) (Q:Exit → Act → World → Prop) (a:Act) (w:World):Prop :=
 ∀ (b:Frame) (k:List Item) (cs:List Frame),∃ e a' w',Q e a' w' ∧ Arrives P (lone (b.at a (.code c :: .inLoop c :: k)) cs w) b k cs e a' w'
theorem ZfP.round {c:Code} {Q:Exit → Act → World → Prop} {a:Act} {w:World} (h:c.wp P (Exit.then (ZfP P c Q) Q) a w):ZfP P c Q a w:=by
 intro b k cs
 obtain ⟨e,a₁,w₁,hq,harr⟩:=h b (.inLoop c :: k) cs
 cases e with
 | normal =>
  obtain ⟨e₂,a₂,w₂,hq₂,harr₂⟩:=hq b k cs
  exact ⟨e₂,a₂,w₂,hq₂,.of_steps (Steps.trans harr (.one step_inLoop)) harr₂⟩
 | exit id=>exact ⟨_,a₁,w₁,hq,.pass (x:=.inLoop c) rfl (fun _ _=>.inl (by simp)) harr⟩
 | goto l=>exact ⟨_,a₁,w₁,hq,.pass (x:=.inLoop c) rfl (fun _ _=>.inl (by simp)) harr⟩
 | ret=>exact ⟨_,a₁,w₁,hq,.pass (x:=.inLoop c) rfl (fun _ _=>.inl (by simp)) harr⟩
 | panic ch=>exact ⟨_,a₁,w₁,hq,.pass (x:=.inLoop c) rfl (fun _ _=>.inl (by simp)) harr⟩
 | outgrown=>exact ⟨_,a₁,w₁,hq,.pass (x:=.inLoop c) rfl (fun _ _=>.inl (by simp)) harr⟩
theorem ZqA {c:Code} {Q:Exit → Act → World → Prop} {a:Act} {w:World} (h:ZfP P c Q a w):(Code.loop c).wp P Q a w:=by
 intro b k cs
 obtain ⟨e,a',w',hq,harr⟩:=h b k cs
 exact ⟨e,a',w',hq,.of_steps (.one step_loop) harr⟩
end
end Go.VM
