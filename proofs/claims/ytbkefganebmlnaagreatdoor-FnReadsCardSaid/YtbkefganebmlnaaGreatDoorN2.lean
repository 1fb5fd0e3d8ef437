/-
  The meta layer, part 2: a part of a datum behind a path of fields, elements and pointers; where it lies in memory; what comes of writing it.
-/
import Derived.Test.YtbkefganebmlnaaGreatDoorN1
namespace Go.Abs
open Go.RowKit
set_option linter.unusedVariables false
set_option linter.unusedSimpArgs false
def getI {α:Type} (l:List α) (i:Int):Option α:=if 0 <= i then l[i.toNat]? else none
def setI {α:Type} (l:List α) (i:Int) (f:α -> α):List α:=l.modify i.toNat f
theorem Oe {α:Type} (l:List α) (i:Int) (f:α -> α):(setI l i f).length = l.length:=by simp [setI]
inductive PStep where
 | fld (n:Nat)
 | idx
 | drf
 deriving DecidableEq
def fld:(ts:List Ty) -> Nat -> Option ((t:Ty) × (Ty.dens ts -> t.den) × (Ty.dens ts -> t.den -> Ty.dens ts))
 | [],_ => none
 | t :: _,0 => some ⟨t,fun x => x.1,fun x y => (y,x.2)⟩
 | _ :: ts,n + 1 => match fld ts n with
  | some ⟨t,g,s⟩ => some ⟨t,fun x => g x.2,fun x y => (x.1,s x.2 y)⟩
  | none => none
def offs:List Ty -> Nat -> Nat
 | [],_ => 0
 | _ :: _,0 => 0
 | t :: ts,n + 1 => t.size + offs ts n
def Md.nth:Md -> Nat -> Md
 | m,0 => m.hd
 | m,n + 1 => m.tl.nth n
def Md.setNth:Md -> Nat -> Md -> Md
 | m,0,c => .s c m.tl
 | m,n + 1,c => .s m.hd (m.tl.setNth n c)
def Ty.sub:(t:Ty) -> List PStep -> Option ((t':Ty) × (t.den -> List Int -> Option t'.den) × (t.den -> List Int -> t'.den -> t.den))
 | t,[] => some ⟨t,fun x _ => some x,fun _ _ y => y⟩
 | .st ts,.fld n :: p => match fld ts n with
  | some ⟨t1,g,s⟩ => match t1.sub p with
   | some ⟨t2,g2,s2⟩ => some ⟨t2,fun x is => g2 (g x) is,fun x is y => s x (s2 (g x) is y)⟩
   | none => none
  | none => none
 | .sl _ t,.idx :: p => match t.sub p with
  | some ⟨t2,g2,s2⟩ => some ⟨t2,fun (x:List t.den) is => (getI x (is.headD 0)).bind fun z => g2 z is.tail,fun (x:List t.den) is y => (setI x (is.headD 0) fun z => s2 z is.tail y:List t.den)⟩
  | none => none
 | .ptr t,.drf :: p => match t.sub p with
  | some ⟨t2,g2,s2⟩ => some ⟨t2,fun (x:t.den) is => g2 x is,fun (x:t.den) is y => s2 x is y⟩
  | none => none
 | _,_ => none
def Md.at:Md -> List PStep -> Md
 | m,[] => m
 | m,.fld n :: q => (m.nth n).at q
 | m,_ :: q => m.child.at q
def Md.setAt:Md -> List PStep -> Md -> Md
 | _,[],c => c
 | m,.fld n :: q,c => m.setNth n ((m.nth n).setAt q c)
 | m,_ :: q,c => .u (m.child.setAt q c)
def Md.own:Md -> List PStep -> Bool
 | _,[] => true
 | m,.fld n :: q => (m.nth n).own q
 | .u c,_ :: q => c.own q
 | _,_ => false
def noIdx (p:List PStep):Bool:=!p.contains .idx
inductive Loc where
 | vals (cs:List Value)
 | mem (b off:Nat)
def Loc.sub:Loc -> Nat -> Nat -> Loc
 | .vals cs,off,n => .vals ((cs.drop off).take n)
 | .mem b o,off,_ => .mem b (o + off)
def Loc.head (w:World):Loc -> Option Value
 | .vals cs => cs.head?
 | .mem b o => w.cell? ⟨b,o,none⟩
def Loc.is (w:World):Loc -> List Value -> Prop
 | .vals l,cs => l = cs
 | .mem b off,cs => CellsIn w b off cs
def Loc.off (b:Nat):Loc -> Prop
 | .vals _ => True
 | .mem c _ => c ≠ b
def Loc.has:Loc -> Nat -> Nat -> Nat -> Prop
 | .vals _,_,_,_ => False
 | .mem b off,n,c,o => c = b /\ off <= o /\ o < off + n
def res (w:World) (U:List Nat):(t:Ty) -> Loc -> List PStep -> List Int -> Option (Ty × Loc)
 | t,L,[],[] => some (t,L)
 | .st ts,L,.fld n :: p,is => match fld ts n with
  | some ⟨t',_,_⟩ => res w U t' (L.sub (offs ts n) t'.size) p is
  | none => none
 | .sl _ t,L,.idx :: p,i :: is => match L.head w with
  | some (.slice (some ⟨b,0,none⟩) n _) => if b ∈ U /\ 0 <= i /\ i < n then res w U t (.mem b (i.toNat * t.size)) p is else none
  | _ => none
 | .ptr t,L,.drf :: p,is => match L.head w with
  | some (.pointer (some ⟨b,0,none⟩)) => if b ∈ U then res w U t (.mem b 0) p is else none
  | _ => none
 | _,_,_,_ => none
def idxs:List PStep -> Nat
 | [] => 0
 | .idx :: p => idxs p + 1
 | _ :: p => idxs p
theorem RepCs.splitW {M:Program} {w:World} {P:Prot}:∀ {ts:List Ty} {j:Nat} {t:Ty} {g:Ty.dens ts -> t.den} {s:Ty.dens ts -> t.den -> Ty.dens ts},fld ts j = some ⟨t,g,s⟩ ->
  ∀ {m:Md} {x:Ty.dens ts} {cs:List Value} {T:List Nat},RepCs M ts w P m x cs T -> ∃ c1 c2 c3 T1 T2 T3,cs = c1 ++ (c2 ++ c3) /\ T = T1 ++ (T2 ++ T3) /\ c1.length = offs ts j /\
   RepC M t w P (m.nth j) (g x) c2 T2 /\ s x (g x) = x /\
   ∀ w2 P2 m' mr y c2' T2',Keeps w P w2 P2 (T1 ++ T3) -> RepC M t w2 P2 m' y c2' T2' -> (mr = m.setNth j m' \/ (mr = m /\ m' = m.nth j)) -> RepCs M ts w2 P2 mr (s x y) (c1 ++ (c2' ++ c3)) (T1 ++ (T2' ++ T3))
 | [],_,_,_,_,h,_,_,_,_,_ => by cases h
 | t :: ts,0,_,_,_,h,m,x,cs,T,hr => by
  simp only [fld,Option.some.injEq,Sigma.mk.injEq] at h
  obtain ⟨rfl,h⟩:=h
  have h':=eq_of_heq h
  cases h'
  simp only [RepCs] at hr
  obtain ⟨c1,c2,T1,T2,rfl,rfl,h1,h2⟩:=hr
  refine ⟨[],c1,c2,[],T1,T2,rfl,rfl,rfl,h1,rfl,fun w2 P2 m' mr y c2' T2' hk hy hm => ?_⟩
  rcases hm with rfl | ⟨rfl,rfl⟩
  ·simp only [RepCs,List.nil_append,Md.setNth]
   exact ⟨c2',c2,T2',T2,rfl,rfl,hy,RepCs.mono ts h2 hk⟩
  ·simp only [RepCs,List.nil_append]
   exact ⟨c2',c2,T2',T2,rfl,rfl,hy,RepCs.mono ts h2 hk⟩
 | t :: ts,j + 1,_,_,_,h,m,x,cs,T,hr => by
  simp only [fld] at h
  split at h
  ·rename_i t' g s hf
   simp only [Option.some.injEq,Sigma.mk.injEq] at h
   obtain ⟨rfl,h⟩:=h
   have h':=eq_of_heq h
   cases h'
   simp only [RepCs] at hr
   obtain ⟨c1,c2,T1,T2,rfl,rfl,h1,h2⟩:=hr
   obtain ⟨d1,d2,d3,U1,U2,U3,rfl,rfl,k1,k2,k3,k4⟩:=RepCs.splitW hf h2
   refine ⟨c1 ++ d1,d2,d3,T1 ++ U1,U2,U3,by simp,by simp,by simp only [offs,List.length_append,k1,(RepC.length t h1).1],k2,congrArg (Prod.mk x.1) k3,fun w2 P2 m' mr y c2' T2' hk hy hm => ?_⟩
   have hk':Keeps w P w2 P2 (U1 ++ U3):=hk.sub fun b hb => by rcases List.mem_append.1 hb with hb | hb <;> simp [hb]
   rcases hm with rfl | ⟨rfl,rfl⟩
   ·simp only [RepCs,Md.setNth]
    exact ⟨c1,d1 ++ (c2' ++ d3),T1,U1 ++ (T2' ++ U3),by simp,by simp,RepC.mono t h1 (hk.sub fun b hb => by simp [hb]),k4 w2 P2 m' _ y c2' T2' hk' hy (.inl rfl)⟩
   ·simp only [RepCs]
    exact ⟨c1,d1 ++ (c2' ++ d3),T1,U1 ++ (T2' ++ U3),by simp,by simp,RepC.mono t h1 (hk.sub fun b hb => by simp [hb]),k4 w2 P2 _ mr.tl y c2' T2' hk' hy (.inr ⟨rfl,rfl⟩)⟩
  ·cases h
theorem RepL.splitW {α:Type} {R:α -> List Value -> List Nat -> Prop} {size:Nat} (hsize:∀ x cs T,R x cs T -> cs.length = size):∀ {xs:List α} {cs:List Value} {T:List Nat},RepL R xs cs T ->
  ∀ {i:Nat} {x:α},xs[i]? = some x -> ∃ c1 c2 c3 T1 T2 T3,cs = c1 ++ (c2 ++ c3) /\ T = T1 ++ (T2 ++ T3) /\ c1.length = i * size /\ R x c2 T2 /\
   ∀ (R':α -> List Value -> List Nat -> Prop) f c2' T2',(∀ x cs T',(∀ b ∈ T',b ∈ T1 ++ T3) -> R x cs T' -> R' x cs T') -> R' (f x) c2' T2' -> RepL R' (xs.modify i f) (c1 ++ (c2' ++ c3)) (T1 ++ (T2' ++ T3))
 | [],_,_,_,_,_,hx => by simp at hx
 | y :: ys,_,_,⟨c1,c2,T1,T2,rfl,rfl,h1,h2⟩,0,x,hx => by
  simp only [List.getElem?_cons_zero,Option.some.injEq] at hx
  subst hx
  refine ⟨[],c1,c2,[],T1,T2,rfl,rfl,by simp,h1,fun R' f c2' T2' hk hy => ?_⟩
  exact ⟨c2',c2,T2',T2,rfl,rfl,hy,h2.mono fun x cs T' hs r => hk x cs T' (by simpa using hs) r⟩
 | y :: ys,_,_,⟨c1,c2,T1,T2,rfl,rfl,h1,h2⟩,i + 1,x,hx => by
  simp only [List.getElem?_cons_succ] at hx
  obtain ⟨d1,d2,d3,U1,U2,U3,rfl,rfl,k1,k2,k3⟩:=RepL.splitW hsize h2 hx
  refine ⟨c1 ++ d1,d2,d3,T1 ++ U1,U2,U3,by simp,by simp,by rw [List.length_append,k1,hsize _ _ _ h1,Nat.add_mul]; omega,k2,fun R' f c2' T2' hk hy => ?_⟩
  exact ⟨c1,d1 ++ (c2' ++ d3),T1,U1 ++ (T2' ++ U3),by simp,by simp,hk _ _ _ (fun b hb => by simp [hb]) h1,
   k3 R' f c2' T2' (fun x cs T' hs r => hk x cs T' (fun b hb => by rcases List.mem_append.1 (hs b hb) with h | h <;> simp [h]) r) hy⟩
theorem Sk {α:Type} {l:List α} {i:Int} {x:α} (h:getI l i = some x):0 <= i /\ l[i.toNat]? = some x /\ i < l.length:=by
 unfold getI at h
 split at h
 ·rename_i h0
  have hlt:=(List.getElem?_eq_some_iff.1 h).1
  exact ⟨h0,h,by omega⟩
 ·cases h
structure Foc (M:Program) (w:World) (P:Prot) (t t':Ty) (m:Md) (q:List PStep) (is:List Int) (x:t.den) (y:t'.den) (set:t.den -> List Int -> t'.den -> t.den) (cs cs':List Value) (T T1 T' T2:List Nat) (at_:Loc -> Loc):Prop where
 split:T = T1 ++ (T' ++ T2)
 rep:RepC M t' w P (m.at q) y cs' T'
 loc:∀ L U,L.is w cs -> (∀ b ∈ T,b ∈ U) -> res w U t L q is = some (t',at_ L) /\ (at_ L).is w cs'
 seg:∀ L c o,(at_ L).has cs'.length c o -> L.has cs.length c o \/ c ∈ T1
 plug:∀ L w2 P2 m' mr y' cs2 T2',L.is w cs -> (∀ b ∈ T,L.off b) -> Later w P w2 P2 -> RepC M t' w2 P2 m' y' cs2 T2' -> (at_ L).is w2 cs2 -> (∀ c ∈ T1 ++ T2,∀ e n,RowIs w c e n -> RowIs w2 c e n) ->
  (∀ c ∈ T1 ++ T2,∀ o,¬ (at_ L).has cs'.length c o -> w2.cell? ⟨c,o,none⟩ = w.cell? ⟨c,o,none⟩) -> (∀ c o,L.has cs.length c o -> ¬ (at_ L).has cs'.length c o -> w2.cell? ⟨c,o,none⟩ = w.cell? ⟨c,o,none⟩) ->
  (∀ b ∈ T1 ++ T2,∀ o,P2 b o -> P b o) -> ((mr = m /\ m' = m.at q) \/ (noIdx q = true /\ mr = m.setAt q m')) ->
  ∃ cs'',L.is w2 cs'' /\ RepC M t w2 P2 mr (set x is y') cs'' (T1 ++ (T2' ++ T2))
theorem Loc.is_append {w:World} {L:Loc} {c1 c2 c3:List Value} (h:L.is w (c1 ++ (c2 ++ c3))):(L.sub c1.length c2.length).is w c2:=by
 cases L with
 | vals l =>
  have h:l = _:=h
  subst h
  show ((c1 ++ (c2 ++ c3)).drop c1.length).take c2.length = c2
  rw [List.drop_left,List.take_left]
 | mem b off =>
  intro j v hj
  have:=h (c1.length + j) v (by
   rw [List.getElem?_append_right (by omega),show c1.length + j - c1.length = j by omega,List.getElem?_append_left (List.getElem?_eq_some_iff.1 hj).1]
   exact hj)
  rwa [<- Nat.add_assoc] at this
theorem Loc.is_join {w w2:World} {L:Loc} {c1 c2 c2' c3:List Value} (h:L.is w (c1 ++ (c2 ++ c3))) (hl:c2'.length = c2.length) (h2:(L.sub c1.length c2.length).is w2 c2')
  (hs:∀ c o,L.has (c1 ++ (c2 ++ c3)).length c o -> ¬ (L.sub c1.length c2.length).has c2.length c o -> w2.cell? ⟨c,o,none⟩ = w.cell? ⟨c,o,none⟩):L.is w2 (c1 ++ (c2' ++ c3)):=by
 cases L with
 | vals l =>
  have h:l = _:=h
  subst h
  have h2:((c1 ++ (c2 ++ c3)).drop c1.length).take c2.length = c2':=h2
  rw [List.drop_left,List.take_left] at h2
  subst h2
  rfl
 | mem b off =>
  intro j v hj
  by_cases hm:c1.length <= j /\ j < c1.length + c2.length
  ·rw [List.getElem?_append_right hm.1,List.getElem?_append_left (by omega)] at hj
   have:=h2 (j - c1.length) v hj
   have e:off + c1.length + (j - c1.length) = off + j:=by omega
   rw [e] at this
   exact this
  ·have hj':(c1 ++ (c2 ++ c3))[j]? = some v:=by
    rcases Nat.lt_or_ge j c1.length with hlt | hge
    ·rw [List.getElem?_append_left hlt] at hj ⊢; exact hj
    ·have hge2:c1.length + c2.length <= j:=by omega
     rw [List.getElem?_append_right hge,List.getElem?_append_right (by omega)] at hj ⊢
     rw [hl] at hj
     exact hj
   have hlt:=(List.getElem?_eq_some_iff.1 hj').1
   have:=hs b (off + j) ⟨rfl,by omega,by omega⟩ (fun hx => hm (by obtain ⟨_,h1,h2⟩:=hx; omega))
   rw [this]
   exact h j v hj'
theorem Ty.sub_focus {M:Program} {w:World} {P:Prot}:∀ (q:List PStep) {t t':Ty} {get:t.den -> List Int -> Option t'.den} {set:t.den -> List Int -> t'.den -> t.den},t.sub q = some ⟨t',get,set⟩ ->
  ∀ {m:Md} {x:t.den} {is:List Int} {y:t'.den} {cs:List Value} {T:List Nat},RepC M t w P m x cs T -> m.own q = true -> get x is = some y -> is.length = idxs q -> T.Nodup ->
   ∃ cs' T1 T' T2 at_,Foc M w P t t' m q is x y set cs cs' T T1 T' T2 at_
 | [],t,t',get,set,h,m,x,is,y,cs,T,hr,ho,hg,hi,hn => by
  simp only [Ty.sub,Option.some.injEq,Sigma.mk.injEq] at h
  obtain ⟨rfl,h⟩:=h
  have h':=eq_of_heq h
  cases h'
  cases hg
  have hi:is = []:=List.eq_nil_of_length_eq_zero hi
  subst hi
  refine ⟨cs,[],T,[],fun L => L,by simp,by simpa [Md.at] using hr,fun L U hL _ => ⟨rfl,hL⟩,fun L c o hc => .inl hc,fun L w2 P2 m' mr y' cs2 T2' hL hoff hl hr2 hL2 _ _ _ _ hm => ⟨cs2,hL2,?_⟩⟩
  have:mr = m':=by rcases hm with ⟨rfl,rfl⟩ | ⟨_,rfl⟩ <;> simp [Md.at,Md.setAt]
  subst this
  simpa using hr2
 | .fld n :: q,t,t',get,set,h,m,x,is,y,cs,T,hr,ho,hg,hi,hn => by
  cases t <;> simp only [Ty.sub] at h <;> try (simp at h; done)
  rename_i ts
  split at h
  ·rename_i t1 g1 s1 hf
   split at h
   ·rename_i t2 g2 s2 hsub
    simp only [Option.some.injEq,Sigma.mk.injEq] at h
    obtain ⟨rfl,h⟩:=h
    have h':=eq_of_heq h
    cases h'
    simp only [RepC] at hr
    obtain ⟨c1,c2,c3,A1,A2,A3,rfl,rfl,k1,k2,k3,k4⟩:=RepCs.splitW hf hr
    obtain ⟨n1,n2,n3⟩:=List.nodup_append.1 hn
    obtain ⟨n4,n5,n6⟩:=List.nodup_append.1 n2
    obtain ⟨cs',B1,B',B2,at_,F⟩:=Ty.sub_focus q hsub k2 (by simpa [Md.own] using ho) hg (by simpa [idxs] using hi) n4
    have hl2:=(RepC.length t1 k2).1
    obtain ⟨Fs,Fr,Fl,Fg,Fp⟩:=F
    subst Fs
    refine ⟨cs',A1 ++ B1,B',B2 ++ A3,fun L => at_ (L.sub (offs ts n) t1.size),by simp,by simpa [Md.at] using Fr,fun L U hL hU => ?_,fun L c o hc => ?_,fun L w2 P2 m' mr y' cs2 T2' hL hoff hl hr2 hL2 hrow hcell hreg hpr hm => ?_⟩
    ·have hL':(L.sub (offs ts n) t1.size).is w c2:=by rw [<- k1,<- hl2]; exact Loc.is_append hL
     obtain ⟨q1,q2⟩:=Fl _ U hL' fun b hb => hU b (by grind)
     exact ⟨by simp only [res,hf]; exact q1,q2⟩
    ·rcases Fg _ c o hc with h | h
     ·left
      cases L with
      | vals l => exact h.elim
      | mem b off =>
       obtain ⟨rfl,h1,h2⟩:=h
       refine ⟨rfl,by omega,?_⟩
       simp only [List.length_append]
       omega
     ·right; simp [h]
    ·have hL':(L.sub (offs ts n) t1.size).is w c2:=by rw [<- k1,<- hl2]; exact Loc.is_append hL
     have hoff':∀ b ∈ B1 ++ (B' ++ B2),(L.sub (offs ts n) t1.size).off b:=fun b hb => by
      have:=hoff b (by grind)
      cases L <;> exact this
     have hreg':∀ c o,(L.sub (offs ts n) t1.size).has c2.length c o -> L.has (c1 ++ (c2 ++ c3)).length c o:=fun c o h => by
      cases L with
      | vals l => exact h.elim
      | mem b off =>
       obtain ⟨rfl,h1,h2⟩:=h
       refine ⟨rfl,by omega,?_⟩
       simp only [List.length_append]
       omega
     have hblk:∀ c,c ∈ A1 ++ A3 -> ∀ o,¬ (at_ (L.sub (offs ts n) t1.size)).has cs'.length c o:=fun c hc o h => by
      rcases Fg _ c o h with h | h
      ·have hof:=hoff c (by grind)
       cases L with
       | vals l => exact h.elim
       | mem b off => exact hof h.1.symm
      ·rcases List.mem_append.1 hc with hc | hc
       ·exact n3 c hc c (by simp [h]) rfl
       ·exact n6 c (by simp [h]) c hc rfl
     have hk:Keeps w P w2 P2 (A1 ++ A3):=⟨hl,fun c hc => ⟨hrow c (by grind),fun o => hcell c (by grind) o (hblk c hc o)⟩,fun b hb => hpr b (by grind)⟩
     obtain ⟨mr',hm1,hm2⟩:∃ mr',((mr' = m.nth n /\ m' = (m.nth n).at q) \/ (noIdx q = true /\ mr' = (m.nth n).setAt q m')) /\ (mr = m.setNth n mr' \/ (mr = m /\ mr' = m.nth n)):=by
      rcases hm with ⟨rfl,rfl⟩ | ⟨h1,rfl⟩
      ·exact ⟨_,.inl ⟨rfl,rfl⟩,.inr ⟨rfl,rfl⟩⟩
      ·exact ⟨_,.inr ⟨by simpa [noIdx] using h1,rfl⟩,.inl rfl⟩
     obtain ⟨cs'',q1,q2⟩:=Fp _ w2 P2 m' mr' y' cs2 T2' hL' hoff' hl hr2 hL2 (fun c hc => hrow c (by grind)) (fun c hc o ho => hcell c (by grind) o ho)
      (fun c o h1 h2 => hreg c o (hreg' c o h1) h2) (fun b hb => hpr b (by grind)) hm1
     refine ⟨c1 ++ (cs'' ++ c3),Loc.is_join hL ?_ (by rw [k1,hl2]; exact q1) (fun c o h1 h2 => hreg c o h1 fun h3 => ?_),?_⟩
     ·rw [(RepC.length t1 q2).1,hl2]
     ·rcases Fg _ c o h3 with h | h
      ·rw [<- k1,<- hl2] at h; exact h2 h
      ·have hof:=hoff c (by simp [h])
       cases L with
       | vals l => exact h1.elim
       | mem b off => exact hof h1.1.symm
     ·have:=k4 w2 P2 _ mr _ _ _ hk q2 hm2
      simp only [RepC]
      simpa using this
   ·cases h
  ·cases h
 | .idx :: q,t,t',get,set,h,m,x,is,y,cs,T,hr,ho,hg,hi,hn => by
  cases t <;> simp only [Ty.sub] at h <;> try (simp at h; done)
  rename_i e t1
  split at h
  ·rename_i t2 g2 s2 hsub
   simp only [Option.some.injEq,Sigma.mk.injEq] at h
   obtain ⟨rfl,h⟩:=h
   have h':=eq_of_heq h
   cases h'
   cases is with
   | nil => simp [idxs] at hi
   | cons i is =>
   simp only [List.headD_cons,List.tail_cons] at hg
   cases hz:getI (show List t1.den from x) i with
   | none => rw [hz] at hg; cases hg
   | some z =>
   rw [hz] at hg
   replace hg:g2 z is = some y:=hg
   obtain ⟨i0,iz,ilt⟩:=Sk hz
   cases m <;> simp only [Md.own,Bool.false_eq_true] at ho
   rename_i c
   simp only [RepC] at hr
   obtain ⟨v,rfl,hr⟩:=hr
   rcases hr with ⟨h1,_⟩ | ⟨b,cap,cells,Tc,rfl,h2,h3,h4,h5,h6,h7,rfl,h9⟩
   ·rw [h1] at iz; simp at iz
   ·obtain ⟨nb,nc⟩:=List.nodup_cons.1 hn
    obtain ⟨c1,c2,c3,A1,A2,A3,rfl,rfl,k1,k2,k3⟩:=RepL.splitW (size:=t1.size) (fun x cs T r => (RepC.length t1 r).1) h5 iz
    obtain ⟨n1,n2,n3⟩:=List.nodup_append.1 nc
    obtain ⟨n4,n5,n6⟩:=List.nodup_append.1 n2
    obtain ⟨cs',B1,B',B2,at_,F⟩:=Ty.sub_focus q hsub k2 ho hg (by simpa [idxs] using hi) n4
    have hl2:=(RepC.length t1 k2).1
    obtain ⟨Fs,Fr,Fl,Fg,Fp⟩:=F
    subst Fs
    have hL1:(Loc.mem b (i.toNat * t1.size)).is w c2:=by
     have:=Loc.is_append (L:=.mem b 0) (w:=w) (c1:=c1) (c2:=c2) (c3:=c3) h7
     simpa [Loc.sub,k1] using this
    refine ⟨cs',b :: (A1 ++ B1),B',B2 ++ A3,fun _ => at_ (.mem b (i.toNat * t1.size)),by simp,by simpa [Md.at,Md.child] using Fr,fun L U hL hU => ?_,fun L c o hc => ?_,fun L w2 P2 m' mr y' cs2 T2' hL hoff hl hr2 hL2 hrow hcell hreg hpr hm => ?_⟩
    ·have hhead:L.head w = some (.slice (some ⟨b,0,none⟩) (List.length (show List t1.den from x)) cap):=by
      cases L with
      | vals l => have hL:l = _:=hL; subst hL; rfl
      | mem b' off => exact hL 0 _ rfl
     obtain ⟨q1,q2⟩:=Fl (.mem b (i.toNat * t1.size)) U hL1 fun b hb => hU b (by grind)
     refine ⟨?_,q2⟩
     simp only [res,hhead]
     rw [if_pos ⟨hU b (by simp),i0,ilt⟩]
     exact q1
    ·rcases Fg _ c o hc with h | h
     ·right; simp [h.1]
     ·right; simp [h]
    ·have hne:∀ k ∈ B1 ++ (B' ++ B2),(Loc.mem b (i.toNat * t1.size)).off k:=fun k hk => fun e => nb (by rw [show b = k from e]; grind)
     have hblk:∀ c,c ∈ A1 ++ A3 -> ∀ o,¬ (at_ (.mem b (i.toNat * t1.size))).has cs'.length c o:=fun c hc o h => by
      rcases Fg _ c o h with h | h
      ·exact nb (by rw [<- h.1]; grind)
      ·rcases List.mem_append.1 hc with hc | hc
       ·exact n3 c hc c (by simp [h]) rfl
       ·exact n6 c (by simp [h]) c hc rfl
     have hk:Keeps w P w2 P2 (A1 ++ A3):=⟨hl,fun c hc => ⟨hrow c (by grind),fun o => hcell c (by grind) o (hblk c hc o)⟩,fun k hk => hpr k (by grind)⟩
     have hm1:mr = .u c /\ m' = c.at q:=by
      rcases hm with ⟨rfl,rfl⟩ | ⟨h,_⟩
      ·exact ⟨rfl,by simp [Md.at,Md.child]⟩
      ·simp [noIdx] at h
     obtain ⟨rfl,hm2⟩:=hm1
     obtain ⟨cs'',q1,q2⟩:=Fp (.mem b (i.toNat * t1.size)) w2 P2 m' c y' cs2 T2' hL1 hne hl hr2 hL2 (fun c hc => hrow c (by grind)) (fun c hc o ho => hcell c (by grind) o ho)
      (fun c o h1 h2 => hcell c (by simp [h1.1]) o h2) (fun k hk => hpr k (by grind)) (.inl ⟨rfl,hm2⟩)
     have hl3:=(RepC.length t1 q2).1
     have hL2:L.is w2 [.slice (some ⟨b,0,none⟩) (List.length (show List t1.den from x)) cap]:=by
      cases L with
      | vals l => exact hL
      | mem b' off =>
       intro j v hj
       cases j with
       | succ j => simp at hj
       | zero =>
        rw [hreg b' (off + 0) ⟨rfl,by omega,by simp⟩ (fun h => ?_)]
        ·exact hL 0 v hj
        ·have hof:=hoff b'
         rcases Fg _ b' _ h with h | h
         ·exact hof (by simp [h.1]) rfl
         ·exact hof (by simp [h]) rfl
     refine ⟨_,hL2,?_⟩
     simp only [RepC]
     refine ⟨_,rfl,.inr ⟨b,cap,c1 ++ (cs'' ++ c3),A1 ++ (B1 ++ (T2' ++ B2) ++ A3),?_,?_,h3,hrow b (by simp) _ _ h4,?_,?_,?_,by simp,fun o ho => h9 o (hpr b (by simp) o ho)⟩⟩
     ·exact (congrArg (fun k => Value.slice (some ⟨b,0,none⟩) k cap) (Oe (show List t1.den from x) i _)).symm
     ·exact Nat.le_trans (Nat.le_of_eq (Oe (show List t1.den from x) i _)) h2
     ·have:=k3 (RepC M t1 w2 P2 c) (fun z => s2 z is y') cs'' (B1 ++ (T2' ++ B2)) (fun x cs T' hs r => RepC.mono t1 r (hk.sub hs)) q2
      simpa [setI] using this
     ·refine Eq.trans ?_ (congrArg (· * t1.size) (Oe (show List t1.den from x) i _)).symm
      refine Eq.trans ?_ h6
      simp [hl3,hl2]
     ·refine Loc.is_join (L:=.mem b 0) h7 (by rw [hl3,hl2]) ?_ (fun c o h1 h2 => hcell c (by simp [h1.1]) o fun h3 => ?_)
      ·simpa [Loc.sub,k1,hl2] using q1
      ·rcases Fg _ c o h3 with h | h
       ·exact h2 (by simpa [Loc.sub,k1] using h)
       ·exact nb (by rw [<- h1.1]; simp [h])
  ·cases h
 | .drf :: q,t,t',get,set,h,m,x,is,y,cs,T,hr,ho,hg,hi,hn => by
  cases t <;> simp only [Ty.sub] at h <;> try (simp at h; done)
  rename_i t1
  split at h
  ·rename_i t2 g2 s2 hsub
   simp only [Option.some.injEq,Sigma.mk.injEq] at h
   obtain ⟨rfl,h⟩:=h
   have h':=eq_of_heq h
   cases h'
   cases m <;> simp only [Md.own,Bool.false_eq_true] at ho
   rename_i c
   simp only [RepC] at hr
   obtain ⟨v,rfl,b,c2,Tc,e,rfl,h4,h5,h7,rfl,h9⟩:=hr
   obtain ⟨nb,nc⟩:=List.nodup_cons.1 hn
   obtain ⟨cs',B1,B',B2,at_,F⟩:=Ty.sub_focus q hsub h5 ho hg (by simpa [idxs] using hi) nc
   have hl2:=(RepC.length t1 h5).1
   obtain ⟨Fs,Fr,Fl,Fg,Fp⟩:=F
   subst Fs
   refine ⟨cs',b :: B1,B',B2,fun _ => at_ (.mem b 0),by simp,by simpa [Md.at,Md.child] using Fr,fun L U hL hU => ?_,fun L c o hc => ?_,fun L w2 P2 m' mr y' cs2 T2' hL hoff hl hr2 hL2 hrow hcell hreg hpr hm => ?_⟩
   ·have hhead:L.head w = some (.pointer (some ⟨b,0,none⟩)):=by
     cases L with
     | vals l => have hL:l = _:=hL; subst hL; rfl
     | mem b' off => exact hL 0 _ rfl
    obtain ⟨q1,q2⟩:=Fl (.mem b 0) U h7 fun b hb => hU b (by grind)
    refine ⟨?_,q2⟩
    simp only [res,hhead]
    rw [if_pos (hU b (by simp))]
    exact q1
   ·rcases Fg _ c o hc with h | h
    ·right; simp [h.1]
    ·right; simp [h]
   ·have hne:∀ k ∈ B1 ++ (B' ++ B2),(Loc.mem b 0).off k:=fun k hk => fun e => nb (by rw [show b = k from e]; exact hk)
    obtain ⟨mr',hm1,hm2⟩:∃ mr',((mr' = c /\ m' = c.at q) \/ (noIdx q = true /\ mr' = c.setAt q m')) /\ mr = .u mr':=by
     rcases hm with ⟨rfl,rfl⟩ | ⟨h1,rfl⟩
     ·exact ⟨_,.inl ⟨rfl,by simp [Md.at,Md.child]⟩,rfl⟩
     ·exact ⟨_,.inr ⟨by simpa [noIdx] using h1,rfl⟩,by simp [Md.setAt,Md.child]⟩
    subst hm2
    obtain ⟨cs'',q1,q2⟩:=Fp (.mem b 0) w2 P2 m' mr' y' cs2 T2' h7 hne hl hr2 hL2 (fun c hc => hrow c (by grind)) (fun c hc o ho => hcell c (by grind) o ho)
     (fun c o h1 h2 => hcell c (by simp [h1.1]) o h2) (fun k hk => hpr k (by grind)) hm1
    have hl3:=(RepC.length t1 q2).1
    have hL2:L.is w2 [.pointer (some ⟨b,0,none⟩)]:=by
     cases L with
     | vals l => exact hL
     | mem b' off =>
      intro j v hj
      cases j with
      | succ j => simp at hj
      | zero =>
       rw [hreg b' (off + 0) ⟨rfl,by omega,by simp⟩ (fun h => ?_)]
       ·exact hL 0 v hj
       ·have hof:=hoff b'
        rcases Fg _ b' _ h with h | h
        ·exact hof (by simp [h.1]) rfl
        ·exact hof (by simp [h]) rfl
    refine ⟨_,hL2,?_⟩
    simp only [RepC]
    exact ⟨_,rfl,b,cs'',B1 ++ (T2' ++ B2),e,rfl,by rw [hl3,<- hl2]; exact hrow b (by simp) _ _ h4,q2,q1,by simp,fun o ho => h9 o (hpr b (by simp) o ho)⟩
  ·cases h
end Go.Abs
