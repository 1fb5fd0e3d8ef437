/-
  The meta layer, part 24: what is read ahead of a statement is what the machine does.
-/
import Derived.Test.YtbkefganebmlnaaGreatDoorN23
namespace Go.Abs
open Go.RowKit
set_option linter.unusedVariables false
set_option linter.unusedSimpArgs false
section
variable {C:Cx}
theorem SimE.weak {Γ Δ:Ctx} {ρ:Env Γ -> Env Δ} (hρ:weakTo Γ.get Δ = some ρ) {s:Env Γ} {a:Act} {w:World} (h:SimE C Γ s a w):SimE C Δ (ρ s) a w:=by
 obtain ⟨P,T,h⟩:=h
 exact h.weak (Kk s hρ)
theorem SR.to_sound {R:Type} {Γ:Ctx} {r:SR R Γ} {Δ:Ctx} {h:Env r.Δ -> Option (Env Δ)} (ht:r.to Δ = some h) {e:Env r.Δ} {z:Env Δ} (hz:h e = some z) {a:Act} {w:World} (hs:SimE C r.Δ e a w):SimE C Δ z a w:=by
 unfold SR.to at ht
 split at ht
 ·cases ht; cases hz
 ·split at ht
  ·rename_i ρ hρ
   cases ht; cases hz
   exact hs.weak hρ
  ·cases ht
theorem XPost.imp {Q Q':Exit -> Act -> World -> Prop} (hi:∀ id a w,Q (.exit id) a w -> Q' (.exit id) a w):∀ (X:List (Nat × Ctx)) {x:XT X},XPost C Q X x -> XPost C Q' X x
 | [],x,_ => Empty.elim x
 | q :: X,Sum.inl e,h => fun a w hs => hi _ _ _ (h a w hs)
 | q :: X,Sum.inr x,h => XPost.imp hi X (x:=x) h
theorem XPost.left {Q:Exit -> Act -> World -> Prop}:∀ {X Y:List (Nat × Ctx)} {x:XT X},XPost C Q (X ++ Y) (XT.left X Y x) -> XPost C Q X x
 | [],_,x,_ => Empty.elim x
 | q :: X,Y,Sum.inl e,h => h
 | q :: X,Y,Sum.inr x,h => XPost.left (X:=X) (Y:=Y) (x:=x) h
theorem XPost.right {Q:Exit -> Act -> World -> Prop}:∀ {X Y:List (Nat × Ctx)} {y:XT Y},XPost C Q (X ++ Y) (XT.right X Y y) -> XPost C Q Y y
 | [],_,y,h => h
 | q :: X,Y,y,h => XPost.right (X:=X) (Y:=Y) (y:=y) h
def CatP (C:Cx) (Q:Exit -> Act -> World -> Prop) (Δ:Ctx) (X:List (Nat × Ctx)):Env Δ ⊕ XT X -> Prop
 | Sum.inl e => ∀ a w,SimE C Δ e a w -> Q .normal a w
 | Sum.inr y => XPost C Q X y
theorem XPost.catch {Q:Exit -> Act -> World -> Prop} {id:Nat} {Δ:Ctx}:∀ {X:List (Nat × Ctx)} {c:Cat Δ X},XT.catch id Δ X = some c -> ∀ {x:XT X},CatP C Q Δ c.rest (c.f x) -> XPost C (Exit.inBlock id Q) X x
 | [],_,_,x,_ => Empty.elim x
 | q :: X,c,hc,x,h => by
  simp only [XT.catch] at hc
  split at hc
  ·rename_i c' hc'
   split at hc
   ·rename_i hid
    split at hc
    ·rename_i ρ hρ
     cases hc
     cases x with
     | inl z =>
      intro a w hs
      show (if q.1 = id then _ else _)
      rw [if_pos hid]
      exact h a w (hs.weak hρ)
     | inr x => exact XPost.catch hc' (x:=x) h
    ·cases hc
   ·rename_i hid
    cases hc
    cases x with
    | inl z =>
     intro a w hs
     show (if q.1 = id then _ else _)
     rw [if_neg hid]
     exact h a w hs
    | inr x =>
     refine XPost.catch hc' (x:=x) ?_
     have h':CatP C Q Δ (q :: c'.rest) (match c'.f x with | Sum.inl e => Sum.inl e | Sum.inr y => Sum.inr (Sum.inr y)):=h
     cases hx:c'.f x with
     | inl e => rw [hx] at h'; exact h'
     | inr y => rw [hx] at h'; exact h'
  ·cases hc
theorem Aew (fn:Func) (tmps:Array Value):results fn tmps = (do
  let vs <- fn.results.toList.mapM fun
   | .tmp t => (pure (tmps.getD t undef):Sem Value)
   | .cell a t => do loadVar t (<- asAddr (tmps.getD a undef))
  pure (if h:(List.toArray vs).size = 1 then (List.toArray vs)[0] else .tuple (List.toArray vs))):=by
 unfold results
 rw [Array.mapM_eq_mapM_toList]
 simp only [bind_map_left]
 rfl
abbrev resRun (a:Act):ResultVar -> Sem Value
 | .tmp t => pure (a.tmps.getD t undef)
 | .cell c t => do loadVar t (<- asAddr (a.tmps.getD c undef))
theorem Abz {M:Program} {w:World} {a:Act} {fn:Func} {us:List Value} (hus:(fn.results.toList.mapM (resRun a)).run M w = .ok us w) :
  (results fn a.tmps).run M w = .ok (if h:(List.toArray us).size = 1 then (List.toArray us)[0] else .tuple (List.toArray us)) w:=by
 rw [Aew,Sem.run_bind]
 have:(fn.results.toList.mapM fun
  | .tmp t => (pure (a.tmps.getD t undef):Sem Value)
  | .cell c t => do loadVar t (<- asAddr (a.tmps.getD c undef))) = fn.results.toList.mapM (resRun a):=by
  congr 1
 rw [this,hus]
 rfl
theorem V1 {Δ:Ctx} {i:Nat} {t:Ty} {m:Md} {f:Env Δ -> t.den} (h:Δ.get i = ⟨.val t m,f⟩) (s:Env Δ):dyn Δ s i = ⟨.val t m,fun _ => f s⟩:=by
 unfold dyn
 rw [h]
 rfl
theorem Ac8 {Δ:Ctx} {Tb:Tab} (hT:TabOk C.M Tb) {t:Ty} {m:Md} {v:ResultVar} {f:Env Δ -> t.den} (hf:ret1 Δ.get Tb t m v = some f) {s:Env Δ} {a:Act} {w:World} {P:Prot} {T:Nat -> List Nat}
  (h:Sim C (dyn Δ s) a w P T) (hv:retSlot v < gB) :
  ∃ u T',(resRun a v).run C.M w = .ok u w /\ List.Sublist T' (T (retSlot v)) /\ RepV C.M t w P m (f s) u T':=by
 cases v with
 | tmp i =>
  simp only [ret1] at hf
  have hr:=h.rep i
  rw [Cx.at_n (show i < gB from hv)] at hr
  rw [V1 (Vq hf) s] at hr
  exact ⟨_,_,rfl,List.Sublist.refl _,hr⟩
 | cell i ty =>
  by_cases his:Tb.is ty t = true
  ·have hf':exactV (Δ.get i) (.ptr t) (.u m) = some f:=(if_pos his).symm.trans hf
   have hr:=h.rep i
   rw [Cx.at_n (show i < gB from hv)] at hr
   rw [V1 (Vq hf') s] at hr
   simp only [RepE,RepV] at hr
   obtain ⟨b,cells,Tc,e,h1,h2,h3,h4,h5,h6⟩:=hr
   have h1':a.tmps.getD i undef = .pointer (some ⟨b,0,none⟩):=h1
   obtain ⟨l1,l2⟩:=RepC.length t h3
   have hl:=Jk (P:=P) (Tab.of_is hT his) l1 (b:=b) (off:=0) (w:=w) h4
   refine ⟨valOf t cells,Tc,?_,h5 ▸ List.sublist_cons_self b Tc,Bh t h3⟩
   simp only [resRun,h1',asAddr,pure_bind]
   exact hl
  ·exact absurd ((if_neg his).symm.trans hf) (by simp)
end
end Go.Abs
