/-
  The meta layer, part 8: what is taken out of a slot with all that it owns: assignments, boxes, stores.
-/
import Derived.Test.YtbkefganebmlnaaGreatDoorN7
namespace Go.Abs
open Go.RowKit
set_option linter.unusedVariables false
set_option linter.unusedSimpArgs false
theorem Wh:∀ {ts:List Ty} {j:Nat} {t:Ty} {g:Ty.dens ts -> t.den} {s:Ty.dens ts -> t.den -> Ty.dens ts},fld ts j = some ⟨t,g,s⟩ -> ∀ x,s x (g x) = x
 | [],_,_,_,_,h,_ => by cases h
 | t :: ts,0,_,_,_,h,x => by
  simp only [fld,Option.some.injEq,Sigma.mk.injEq] at h
  obtain ⟨rfl,h⟩:=h
  have h':=eq_of_heq h
  cases h'
  rfl
 | t :: ts,j + 1,_,_,_,h,x => by
  simp only [fld] at h
  split at h
  ·rename_i t' g s hf
   simp only [Option.some.injEq,Sigma.mk.injEq] at h
   obtain ⟨rfl,h⟩:=h
   have h':=eq_of_heq h
   cases h'
   exact congrArg (Prod.mk x.1) (Wh hf x.2)
  ·cases h
theorem Ah7 {α:Type} {l:List α} {i:Int} {x:α} {f:α -> α} (h:getI l i = some x) (hf:f x = x):setI l i f = l:=by
 obtain ⟨_,h2,_⟩:=Sk h
 unfold setI
 refine List.ext_getElem? fun j => ?_
 rw [List.getElem?_modify]
 by_cases hj:i.toNat = j
 ·subst hj
  simp [h2,hf]
 ·simp [hj]
theorem Pu:∀ (q:List PStep) {t t':Ty} {get:t.den -> List Int -> Option t'.den} {set:t.den -> List Int -> t'.den -> t.den},t.sub q = some ⟨t',get,set⟩ ->
  ∀ {x:t.den} {is:List Int} {y:t'.den},get x is = some y -> set x is y = x
 | [],t,t',get,set,h,x,is,y,hg => by
  simp only [Ty.sub,Option.some.injEq,Sigma.mk.injEq] at h
  obtain ⟨rfl,h⟩:=h
  have h':=eq_of_heq h
  cases h'
  cases hg
  rfl
 | .fld n :: q,t,t',get,set,h,x,is,y,hg => by
  cases t <;> simp only [Ty.sub] at h <;> try (simp at h; done)
  split at h
  ·rename_i t1 g1 s1 hf
   split at h
   ·rename_i t2 g2 s2 hsub
    simp only [Option.some.injEq,Sigma.mk.injEq] at h
    obtain ⟨rfl,h⟩:=h
    have h':=eq_of_heq h
    cases h'
    simp only
    rw [Pu q hsub hg]
    exact Wh hf x
   ·cases h
  ·cases h
 | .idx :: q,t,t',get,set,h,x,is,y,hg => by
  cases t <;> simp only [Ty.sub] at h <;> try (simp at h; done)
  rename_i e t1
  split at h
  ·rename_i t2 g2 s2 hsub
   simp only [Option.some.injEq,Sigma.mk.injEq] at h
   obtain ⟨rfl,h⟩:=h
   have h':=eq_of_heq h
   cases h'
   have hg:(getI (show List t1.den from x) (is.headD 0)).bind (fun z => g2 z is.tail) = some y:=hg
   cases hz:getI (show List t1.den from x) (is.headD 0) with
   | none => rw [hz] at hg; cases hg
   | some z =>
    rw [hz] at hg
    exact Ah7 hz (Pu q hsub hg)
  ·cases h
 | .drf :: q,t,t',get,set,h,x,is,y,hg => by
  cases t <;> simp only [Ty.sub] at h <;> try (simp at h; done)
  split at h
  ·rename_i t2 g2 s2 hsub
   simp only [Option.some.injEq,Sigma.mk.injEq] at h
   obtain ⟨rfl,h⟩:=h
   have h':=eq_of_heq h
   cases h'
   exact Pu q hsub hg
  ·cases h
mutual
theorem RepC.hole {M:Program} {w:World} {P:Prot}:(t:Ty) -> ∀ {m:Md} {x:t.den} {cs:List Value} {T:List Nat},RepC M t w P m x cs T -> RepC M t w P .h x cs []
 | .int k,_,_,_,_,h => by simp only [RepC] at h ⊢; exact ⟨h.1,trivial⟩
 | .bool,_,_,_,_,h => by simp only [RepC] at h ⊢; exact ⟨h.1,trivial⟩
 | .str,_,_,_,_,h => by simp only [RepC] at h ⊢; exact ⟨h.1,trivial⟩
 | .sl e t,_,_,_,_,h => by
  simp only [RepC] at h ⊢
  obtain ⟨v,hv,h⟩:=h
  exact ⟨v,hv,rfl,h.one⟩
 | .ptr t,_,_,_,_,h => by
  simp only [RepC] at h ⊢
  obtain ⟨v,hv,h⟩:=h
  exact ⟨v,hv,rfl,h.one⟩
 | .st ts,_,_,_,_,h => by
  simp only [RepC] at h ⊢
  exact RepCs.hole ts h
 | .fn ps r,_,_,_,_,h => by simp only [RepC] at h ⊢; exact ⟨trivial,h.2⟩
 | .tup _,_,_,_,_,h => by simp only [RepC] at h
theorem RepCs.hole {M:Program} {w:World} {P:Prot}:(ts:List Ty) -> ∀ {m:Md} {x:Ty.dens ts} {cs:List Value} {T:List Nat},RepCs M ts w P m x cs T -> RepCs M ts w P .h x cs []
 | [],_,_,_,_,h => by simp only [RepCs] at h ⊢; exact ⟨h.1,trivial⟩
 | t :: ts,_,_,_,_,h => by
  simp only [RepCs] at h ⊢
  obtain ⟨c1,c2,T1,T2,rfl,rfl,h1,h2⟩:=h
  exact ⟨c1,c2,[],[],rfl,rfl,RepC.hole t h1,RepCs.hole ts h2⟩
end
theorem RepV.hole {M:Program} {w:World} {P:Prot} {t:Ty} (hc:t.cell = true) {m:Md} {x:t.den} {v:Value} {T:List Nat} (h:RepV M t w P m x v T):RepV M t w P .h x v []:=by
 obtain ⟨h1,h2⟩:=Bb t hc h
 rw [<- h2]
 exact Bh t (RepC.hole t h1)
mutual
theorem RepC.free {M:Program} {w:World} {P:Prot}:(t:Ty) -> ∀ {m:Md} {x:t.den} {cs:List Value} {T:List Nat},RepC M t w P m x cs T -> ∀ b ∈ T,∀ o,¬ P b o
 | .int k,_,_,_,_,h => by simp only [RepC] at h; rw [h.2]; simp
 | .bool,_,_,_,_,h => by simp only [RepC] at h; rw [h.2]; simp
 | .str,_,_,_,_,h => by simp only [RepC] at h; rw [h.2]; simp
 | .sl e t,m,x,_,_,h => by
  simp only [RepC] at h
  obtain ⟨v,hv,h⟩:=h
  cases m with
  | p => rw [h.1]; simp
  | h => rw [h.1]; simp
  | s _ _ => rw [h.1]; simp
  | u c =>
   rcases h with ⟨_,h,_⟩ | ⟨b,cap,cells,Tc,h1,h2,h3,h4,h5,h6,h7,rfl,h9⟩
   ·rw [h]; simp
   ·intro q hq
    rcases List.mem_cons.1 hq with rfl | hq
    ·exact h9
    ·have:∀ (xs:List t.den) (cs:List Value) (T:List Nat),RepL (RepC M t w P c) xs cs T -> ∀ b ∈ T,∀ o,¬ P b o:=by
      intro xs
      induction xs with
      | nil => intro cs T h; rw [h.2]; simp
      | cons x xs ih =>
       rintro cs T ⟨c1,c2,T1,T2,rfl,rfl,k1,k2⟩ b hb
       rcases List.mem_append.1 hb with hb | hb
       ·exact RepC.free t k1 b hb
       ·exact ih _ _ k2 b hb
     exact this _ _ _ h5 q hq
 | .ptr t,m,_,_,_,h => by
  simp only [RepC] at h
  obtain ⟨v,hv,h⟩:=h
  cases m with
  | p => rw [h.1]; simp
  | h => rw [h.1]; simp
  | s _ _ => rw [h.1]; simp
  | u c =>
   obtain ⟨b,cells,Tc,e,h1,h2,h3,h4,rfl,h6⟩:=h
   intro q hq
   rcases List.mem_cons.1 hq with rfl | hq
   ·exact h6
   ·exact RepC.free t h3 q hq
 | .st ts,_,_,_,_,h => by
  simp only [RepC] at h
  exact RepCs.free ts h
 | .fn ps r,_,_,_,_,h => by simp only [RepC] at h; rw [h.1]; simp
 | .tup _,_,_,_,_,h => by simp only [RepC] at h
theorem RepCs.free {M:Program} {w:World} {P:Prot}:(ts:List Ty) -> ∀ {m:Md} {x:Ty.dens ts} {cs:List Value} {T:List Nat},RepCs M ts w P m x cs T -> ∀ b ∈ T,∀ o,¬ P b o
 | [],_,_,_,_,h => by simp only [RepCs] at h; rw [h.2]; simp
 | t :: ts,_,_,_,_,h => by
  simp only [RepCs] at h
  obtain ⟨c1,c2,T1,T2,rfl,rfl,h1,h2⟩:=h
  intro b hb
  rcases List.mem_append.1 hb with hb | hb
  ·exact RepC.free t h1 b hb
  ·exact RepCs.free ts h2 b hb
end
theorem N6 {M:Program} {w:World} {P:Prot}:(t:Ty) -> ∀ {m:Md} {x:t.den} {cs:List Value} {T:List Nat},RepC M t w P m x cs T -> (valOf t cs).cells.toList = cs
 | .int k,_,_,_,_,h => by simp only [RepC] at h; obtain ⟨rfl,rfl⟩:=h; rfl
 | .bool,_,_,_,_,h => by simp only [RepC] at h; obtain ⟨rfl,rfl⟩:=h; rfl
 | .str,_,_,_,_,h => by simp only [RepC] at h; obtain ⟨rfl,rfl⟩:=h; rfl
 | .sl e t,_,_,_,_,h => by
  simp only [RepC] at h
  obtain ⟨v,rfl,h⟩:=h
  obtain ⟨a,n,c,rfl⟩:=h.one
  rfl
 | .ptr t,_,_,_,_,h => by
  simp only [RepC] at h
  obtain ⟨v,rfl,h⟩:=h
  obtain ⟨a,rfl⟩:=h.one
  rfl
 | .st ts,_,_,_,_,h => by simp [valOf,Value.cells]
 | .fn ps r,_,_,_,_,h => by
  simp only [RepC] at h
  obtain ⟨rfl,v,rfl,f,fs,caps,rfl,_⟩:=h
  rfl
 | .tup _,_,_,_,_,h => by simp only [RepC] at h
theorem PExt.add {F:List Nat} {w0 w:World} {P0 P:Prot} (h:PExt F w0 P0 w P) {D:List Nat} (hD:∀ b ∈ D,w0.heap.size <= b \/ b ∈ F):PExt F w0 P0 w (P.add w D):=
 ⟨h.os,h.tape,h.output,h.size,h.block,h.free,fun b o hp => .inl (h.prot b o hp),fun b o hp => by
  rcases hp with hp | ⟨hp,_⟩
  ·exact h.old b o hp
  ·exact .inr (hD b hp),h.there.add D⟩
section
variable {C:Cx} {fr:Fr} {a:Act} {w:World} {P:Prot} {T:Nat -> List Nat}
structure TakeOk (C:Cx) (a:Act) (w:World) (P:Prot) (T:Nat -> List Nat) (t:Ty) (m:Md) (y:t.den) (us:List (Nat × Ex Unit)) (v:Value) (Tx:List Nat) (Tn:Nat -> List Nat):Prop where
 rep:RepV C.M t w P m y v Tx
 nodup:Tx.Nodup
 sub:∀ b ∈ Tx,∃ i ∈ us.map (·.1),b ∈ T i
 tn:∀ t,(Tn t).Nodup /\ ∀ b ∈ Tn t,b ∈ T t /\ b ∉ Tx
 none:∀ t,t ∉ us.map (·.1) -> Tn t = []
 turned:∀ p ∈ us,∀ tm Tf,RepE C.M w P tm Tf p.2 (C.at a w p.1) (Tn p.1)
structure TakeU (C:Cx) (a:Act) (w:World) (P:Prot) (T:Nat -> List Nat) (us:List (Nat × Ex Unit)) (Tx:List Nat) (Tn:Nat -> List Nat):Prop where
 nodup:Tx.Nodup
 sub:∀ b ∈ Tx,∃ i ∈ us.map (·.1),b ∈ T i
 tn:∀ t,(Tn t).Nodup /\ ∀ b ∈ Tn t,b ∈ T t /\ b ∉ Tx
 none:∀ t,t ∉ us.map (·.1) -> Tn t = []
 turned:∀ p ∈ us,∀ tm Tf,RepE C.M w P tm Tf p.2 (C.at a w p.1) (Tn p.1)
theorem TakeOk.u {t:Ty} {m:Md} {y:t.den} {us:List (Nat × Ex Unit)} {v:Value} {Tx:List Nat} {Tn:Nat -> List Nat} (h:TakeOk C a w P T t m y us v Tx Tn):TakeU C a w P T us Tx Tn:=
 ⟨h.nodup,h.sub,h.tn,h.none,h.turned⟩
theorem TakeU.nil:TakeU C a w P T [] [] (fun _ => []):=⟨List.nodup_nil,by simp,fun _ => ⟨List.nodup_nil,by simp⟩,fun _ _ => rfl,by simp⟩
theorem TakeU.both (h:Sim C fr a w P T) {us1 us2:List (Nat × Ex Unit)} {Tx1 Tx2:List Nat} {Tn1 Tn2:Nat -> List Nat} (h1:TakeU C a w P T us1 Tx1 Tn1) (h2:TakeU C a w P T us2 Tx2 Tn2) (hd:∀ u ∈ us1,∀ v ∈ us2,u.1 ≠ v.1) :
  ∃ Tn,TakeU C a w P T (us1 ++ us2) (Tx1 ++ Tx2) Tn:=by
 have hdd:∀ t,t ∈ us1.map (·.1) -> t ∉ us2.map (·.1):=fun t ht ht' => by
  obtain ⟨u,hu,rfl⟩:=List.mem_map.1 ht
  obtain ⟨v,hv,e⟩:=List.mem_map.1 ht'
  exact hd u hu v hv e.symm
 have hx:∀ b ∈ Tx1,b ∉ Tx2:=fun b hb hb' => by
  obtain ⟨i,hi,hbi⟩:=h1.sub b hb
  obtain ⟨j,hj,hbj⟩:=h2.sub b hb'
  exact h.apart i j (fun e => hdd i hi (e ▸ hj)) b hbi hbj
 refine ⟨fun t => if t ∈ us1.map (·.1) then Tn1 t else Tn2 t,?_,fun b hb => ?_,fun t => ?_,fun t ht => ?_,fun p hp tm Tf => ?_⟩
 ·exact List.nodup_append.2 ⟨h1.nodup,h2.nodup,fun b hb c hc e => hx b hb (e ▸ hc)⟩
 ·rcases List.mem_append.1 hb with hb | hb
  ·obtain ⟨i,hi,hbi⟩:=h1.sub b hb; exact ⟨i,by rw [List.map_append]; exact List.mem_append_left _ hi,hbi⟩
  ·obtain ⟨i,hi,hbi⟩:=h2.sub b hb; exact ⟨i,by rw [List.map_append]; exact List.mem_append_right _ hi,hbi⟩
 ·split
  ·rename_i ht
   refine ⟨(h1.tn t).1,fun b hb => ⟨((h1.tn t).2 b hb).1,fun hm => ?_⟩⟩
   rcases List.mem_append.1 hm with hm | hm
   ·exact ((h1.tn t).2 b hb).2 hm
   ·obtain ⟨j,hj,hbj⟩:=h2.sub b hm
    exact h.apart t j (fun e => hdd t ht (e ▸ hj)) b ((h1.tn t).2 b hb).1 hbj
  ·rename_i ht
   refine ⟨(h2.tn t).1,fun b hb => ⟨((h2.tn t).2 b hb).1,fun hm => ?_⟩⟩
   rcases List.mem_append.1 hm with hm | hm
   ·obtain ⟨j,hj,hbj⟩:=h1.sub b hm
    by_cases ht2:t ∈ us2.map (·.1)
    ·exact h.apart t j (fun e => ht (e ▸ hj)) b ((h2.tn t).2 b hb).1 hbj
    ·rw [h2.none t ht2] at hb; simp at hb
   ·exact ((h2.tn t).2 b hb).2 hm
 ·rw [List.map_append,List.mem_append,not_or] at ht
  rw [if_neg ht.1]
  exact h2.none t ht.2
 ·rcases List.mem_append.1 hp with hp | hp
  ·rw [if_pos (List.mem_map_of_mem hp)]
   exact h1.turned p hp tm Tf
  ·rw [if_neg (fun hm => hdd p.1 hm (List.mem_map_of_mem hp))]
   exact h2.turned p hp tm Tf
theorem Kq {M:Program} {w:World} {P:Prot} {ds:List Nat} {i:Nat} {p:Nat × Ex Unit} (hp:p ∈ hung ds fr i):p.2 = Ex.non /\ (fr p.1).1.onT i = true:=by
 unfold hung at hp
 obtain ⟨k,hk,rfl⟩:=List.mem_map.1 hp
 exact ⟨rfl,(List.mem_filter.1 hk).2⟩
theorem take_ok (h:Sim C fr a w P T) {dl:List Nat} {pin:Nat -> Bool} {o:Operand} {k:Tkn Unit} (hk:take dl pin fr o = some k) {y:k.t.den} (hy:k.f () = some y) :
  ∃ Tx Tn,TakeOk C a w P T k.t k.m y k.us (a.eval o) Tx Tn:=by
 obtain ⟨Tx,hrep,hT⟩:=opx_rep h o
 unfold take at hk
 split at hk
 ·rename_i t m f hx
  rw [hx] at hrep
  split at hk
  ·rename_i hf
   cases hk
   cases hy
   have hn:=RepV.fz_nil _ hrep hf
   subst hn
   exact ⟨[],fun _ => [],hrep,List.nodup_nil,by simp,fun _ => ⟨List.nodup_nil,by simp⟩,fun _ _ => rfl,by simp⟩
  ·rename_i hf
   split at hk
   ·rename_i i hi
    split at hk
    ·cases hk
    ·cases hk
     cases hy
     have hTx:Tx = T i:=opx_T (hT i hi) hi hx (by simp)
     subst hTx
     refine ⟨T i,fun _ => [],hrep,h.nodup i,fun b hb => ⟨i,by simp,hb⟩,fun _ => ⟨List.nodup_nil,by simp⟩,fun _ _ => rfl,fun p hp tm Tf => ?_⟩
     rcases List.mem_cons.1 hp with rfl | hp
     ·rfl
     ·rw [(Kq (M:=C.M) (w:=w) (P:=P) hp).1]; rfl
   ·cases hk
 ·rename_i i t0 q t f hx
  rw [hx] at hrep
  split at hk
  ·rename_i k' hk'
   obtain ⟨m,g,get,set,rfl,hroot,hsub,hown,hcell⟩:=look_eq hk'
   obtain ⟨_,L,cs0,h1,h2,h3,h4⟩:=hrep
   split at hk
   ·cases hk
   ·have key:∀ {y:t.den},get (g ()) (f ()) = some y -> ∃ cs T1 T' T2 at_,valOf t0 (C.at a w i).cells.toList = C.at a w i /\ Foc C.M w P t0 t m q (f ()) (g ()) y set (C.at a w i).cells.toList cs (T i) T1 T' T2 at_ /\ L = at_ (.vals (C.at a w i).cells.toList) /\ L.is w cs /\ valOf t cs = a.eval o:=by
     intro y hy
     obtain ⟨hin,cs,T1,T',T2,at_,hv,F,hL,hLi⟩:=h.focus hroot hsub hown hcell hy h1
     refine ⟨cs,T1,T',T2,at_,hv,F,hL,hLi,?_⟩
     rw [h4,Loc.is_unique hLi h2 (by rw [(RepC.length _ F.rep).1,h3])]
    split at hk
    ·cases hk
     obtain ⟨cs,T1,T',T2,at_,hv,F,hL,hLi,hval⟩:=key hy
     have hnd:=h.nodup i
     rw [F.split] at hnd
     refine ⟨T',fun _ => [],?_,(List.nodup_append.1 (List.nodup_append.1 hnd).2.1).1,fun b hb => ⟨i,by simp,by rw [F.split]; simp [hb]⟩,fun _ => ⟨List.nodup_nil,by simp⟩,fun _ _ => rfl,fun p hp tm Tf => ?_⟩
     ·rw [<- hval]; exact Bh t F.rep
     ·rcases List.mem_cons.1 hp with rfl | hp
      ·rfl
      ·rw [(Kq (M:=C.M) (w:=w) (P:=P) hp).1]; rfl
    ·split at hk
     ·rename_i hni
      cases hk
      obtain ⟨cs,T1,T',T2,at_,hv,F,hL,hLi,hval⟩:=key hy
      have hnd:=h.nodup i
      rw [F.split] at hnd
      obtain ⟨n1,n2,n3⟩:=List.nodup_append.1 hnd
      obtain ⟨n4,n5,n6⟩:=List.nodup_append.1 n2
      obtain ⟨cs'',q1,q2⟩:=F.plug (.vals (C.at a w i).cells.toList) w P .h (m.setAt q .h) y cs [] rfl (fun _ _ => trivial) (Later.refl w P) (RepC.hole t F.rep) (hL ▸ hLi) (fun _ _ _ _ hr => hr) (fun _ _ _ _ => rfl) (fun _ _ hx _ => rfl) (fun _ _ _ hp => hp) (.inr ⟨hni,rfl⟩)
      rw [Pu q hsub hy] at q2
      have q1:(C.at a w i).cells.toList = cs'':=q1
      subst q1
      refine ⟨T',fun j => if j = i then T1 ++ T2 else [],?_,n4,fun b hb => ⟨i,by simp,by rw [F.split]; simp [hb]⟩,fun j => ?_,fun j hj => ?_,fun p hp tm Tf => ?_⟩
      ·rw [<- hval]; exact Bh t F.rep
      ·by_cases hj:j = i
       ·subst hj
        rw [if_pos rfl]
        refine ⟨List.nodup_append.2 ⟨n1,n5,fun b hb c hc => n3 b hb c (by simp [hc])⟩,fun b hb => ⟨by rw [F.split]; grind,fun hb' => ?_⟩⟩
        rcases List.mem_append.1 hb with hb | hb
        ·exact n3 b hb b (by simp [hb']) rfl
        ·exact n6 b hb' b hb rfl
       ·rw [if_neg hj]; exact ⟨List.nodup_nil,by simp⟩
      ·rw [if_neg (fun e => hj (by simp [e]))]
      ·rcases List.mem_cons.1 hp with rfl | hp
       ·rw [if_pos rfl]
        have:=Bh t0 q2
        rw [hv,List.nil_append] at this
        exact this
       ·obtain ⟨e,hon⟩:=Kq (M:=C.M) (w:=w) (P:=P) hp
        have hne:p.1 ≠ i:=fun e' => by rw [e',hroot] at hon; simp [Ent.onT] at hon
        rw [e,if_neg hne]
        rfl
     ·split at hk
      ·cases hk
       obtain ⟨cs,T1,T',T2,at_,hv,F,hL,hLi,hval⟩:=key hy
       exact ⟨[],fun _ => [],by rw [<- hval]; exact Bh t (RepC.hole t F.rep),List.nodup_nil,by simp,fun _ => ⟨List.nodup_nil,by simp⟩,fun _ _ => rfl,by simp⟩
      ·cases hk
  ·cases hk
 ·cases hk
theorem usX_map {X:Type} {l:List (Nat × Ex Unit)}:(usX l:List (Nat × ((e:Ent) × (Unit -> X -> e.pay)))).map (·.1) = l.map (·.1):=by
 unfold usX
 rw [List.map_map]
 rfl
theorem mem_usX {X:Type} {l:List (Nat × Ex Unit)} {p:Nat × ((e:Ent) × (Unit -> X -> e.pay))} (h:p ∈ (usX l:List (Nat × ((e:Ent) × (Unit -> X -> e.pay))))):∃ q ∈ l,p = (q.1,⟨q.2.1,fun s _ => q.2.2 s⟩):=by
 obtain ⟨q,hq,rfl⟩:=List.mem_map.1 h
 exact ⟨q,hq,rfl⟩
theorem RepE.own_mono {M:Program} {w w':World} {P P':Prot} {x:Ex Unit} {v:Value} {T:List Nat} (hx:x.1.own = true) (h:∀ tm Tf,RepE M w P tm Tf x v T) (hk:Keeps w P w' P' T):∀ tm Tf,RepE M w' P' tm Tf x v T:=fun tm Tf =>
 (h tm Tf).mono hk (fun _ _ => rfl) fun i hi => by
  obtain ⟨e,f⟩:=x
  cases e <;> simp_all [Ent.own,Ent.onT]
theorem Sim.give (h:Sim C fr a w P T) {pin:Nat -> Bool} {ds:List Nat} {dst:Option Nat} {r:Res Unit} (hc:OpC C pin ds fr dst r) {us:List (Nat × Ex Unit)} (hus:r.us = usX us) {Tx:List Nat} {Tn:Nat -> List Nat} (tk:TakeU C a w P T us Tx Tn)
  {y:r.X} {v:Value} {w':World} {P':Prot} {Td:List Nat} (hp:PExt C.F C.w0 C.P0 w' P') (hw:w.heap.size <= w'.heap.size) (hk:∀ S:List Nat,(∀ b ∈ S,b < w.heap.size /\ b ∉ Tx) -> Keeps w P w' P' S)
  (hx:∀ tm Tf,RepE C.M w' P' tm Tf ⟨r.e,fun _ => r.f () y⟩ v Td) (hTd:Td.Nodup) (hsub:∀ b ∈ Td,b ∈ Tx \/ (w.heap.size <= b /\ b < w'.heap.size)) :
  ∃ Tn',Did C fr a w P T dst r y v w' P' Tn':=by
 have hmap:r.us.map (·.1) = us.map (·.1):=by rw [hus]; exact usX_map
 have hflat:∀ b ∈ Tx,b ∈ (r.us.map (·.1)).flatMap T:=fun b hb => by
  obtain ⟨i,hi,hbi⟩:=tk.sub b hb
  rw [hmap]
  exact List.mem_flatMap.2 ⟨i,hi,hbi⟩
 have hlt:∀ t,∀ b ∈ Tn t,b < w.heap.size:=fun t b hb => (h.new t b ((tk.tn t).2 b hb).1).2
 have hne:∀ t,some t = dst -> Tn t = []:=fun t ht => tk.none t fun hm => by
  rw [<- hmap] at hm
  obtain ⟨p,hp,e⟩:=List.mem_map.1 hm
  exact (hc.slot t ht.symm).2.2.2 p hp e
 have hdis:∀ t,∀ b ∈ Tn t,b ∉ Td:=fun t b hb hbd => by
  rcases hsub b hbd with h' | h'
  ·exact ((tk.tn t).2 b hb).2 h'
  ·have:=hlt t b hb; omega
 refine ⟨fun t => if some t = dst then Td else Tn t,hp,hw,fun S hS => hk S fun b hb => ⟨(hS b hb).1,fun hm => (hS b hb).2 (hflat b hm)⟩,fun d hd => ?_,fun p hp tm Tf => ?_,fun t => ?_,fun t u htu b hb => ?_,fun t b hb => ?_⟩
 ·rw [if_pos hd.symm]; exact hx _ _
 ·have hp':=hp
  rw [hus] at hp'
  obtain ⟨q,hq,rfl⟩:=mem_usX hp'
  have hown:=(hc.us _ hp).2
  have hnd:¬ some q.1 = dst:=fun e => (hc.slot q.1 e.symm).2.2.2 _ hp rfl
  rw [if_neg hnd]
  exact RepE.own_mono hown (tk.turned q hq) (hk _ fun b hb => ⟨hlt _ b hb,((tk.tn _).2 b hb).2⟩) tm Tf
 ·split
  ·exact hTd
  ·exact (tk.tn t).1
 ·split at hb
  ·rename_i ht
   split
   ·rename_i hu; exact absurd (Option.some.inj (ht.trans hu.symm)) htu
   ·exact fun hb' => hdis u b hb' hb
  ·split
   ·exact hdis t b hb
   ·exact fun hb' => h.apart t u htu b ((tk.tn t).2 b hb).1 ((tk.tn u).2 b hb').1
 ·split at hb
  ·rcases hsub b hb with h' | h'
   ·exact .inl (hflat b h')
   ·exact .inr h'
  ·by_cases ht:t ∈ us.map (·.1)
   ·exact .inl (List.mem_flatMap.2 ⟨t,by rw [hmap]; exact ht,((tk.tn t).2 b hb).1⟩)
   ·rw [tk.none t ht] at hb; simp at hb
theorem Agb {Q:Exit -> Act -> World -> Prop} (h:Sim C fr a w P T) {o:Oper} {x:Operand} (ho:o.op = .assign x)
  {r:Res Unit} {dl:List Nat} {pin:Nat -> Bool} (hs:sAssign dl pin fr x = some r) {ds:List Nat} (hc:OpC C pin ds fr o.dst r) {z:r.X} (hz:r.run () = some z):Goal C fr a w o Q r z:=by
 have hrun:(execOp a.eval o).run C.M w = .ok (.value (a.eval x)) w:=by simp [execOp,ho]
 unfold sAssign at hs
 split at hs
 ·rename_i i t0 q t f hx
  obtain ⟨Tx,hrep,_⟩:=opx_rep h x
  rw [hx] at hrep
  cases hs
  obtain ⟨_,b,off,h1,h2⟩:=hrep
  exact h.plain hc hrun rfl ⟨rfl,b,off,h1,h2⟩
 ·split at hs
  ·rename_i k hk
   cases hs
   obtain ⟨Tx,Tn,tk⟩:=take_ok h hk hz
   obtain ⟨Tn',hd⟩:=h.give hc rfl tk.u (y:=z) (v:=a.eval x) h.pext (Nat.le_refl _) (fun S _ => Keeps.refl w P S) (fun _ _ => tk.rep) tk.nodup (fun b hb => .inl hb)
   exact Jh hrun (h.did hc hd)
  ·cases hs
theorem Aht {Q:Exit -> Act -> World -> Prop} (h:Sim C fr a w P T) {o:Oper} {x:Operand} (ho:o.op = .move x) {ts:List Ty} {m:Md} {f:Unit -> Ty.dens ts} (hx:opx fr x = ⟨.val (.tup ts) m,f⟩) (hf:¬ (Ty.tup ts).fz m = true)
  {r:Res Unit} {dl:List Nat} {pin:Nat -> Bool} (hs:sMove dl pin fr x = some r) {ds:List Nat} (hc:OpC C pin ds fr o.dst r) {z:r.X}:Goal C fr a w o Q r z:=by
 have hrun:(execOp a.eval o).run C.M w = .ok (.value (a.eval x)) w:=by simp [execOp,ho]
 unfold sMove at hs
 rw [hx] at hs
 simp only [if_neg hf] at hs
 cases hsl:slotOf x with
 | none => rw [hsl] at hs; cases hs
 | some i =>
  rw [hsl] at hs
  simp only at hs
  split at hs
  ·cases hs
  ·rename_i hpin
   cases hs
   obtain ⟨Tx,Tn,tk⟩:=take_ok h (dl:=dl) (pin:=pin) (o:=x) (k:=⟨.tup ts,m,fun s => some (f s),(i,Ex.non) :: hung dl fr i⟩) (by unfold take; rw [hx]; simp only [if_neg hf,hsl,if_neg hpin]) (y:=f ()) rfl
   obtain ⟨Tn',hd⟩:=h.give hc rfl tk.u (y:=z) (v:=a.eval x) h.pext (Nat.le_refl _) (fun S _ => Keeps.refl w P S) (fun _ _ => tk.rep) tk.nodup (fun b hb => .inl hb)
   exact Jh hrun (h.did hc hd)
theorem Sim.alloced (h:Sim C fr a w P T) (o:Obj) :
  (∀ S:List Nat,(∀ b ∈ S,b < w.heap.size) -> Keeps w P (w.alloc o) P S) /\ PExt C.F C.w0 C.P0 (w.alloc o) P /\ (∀ x,¬ P w.heap.size x):=by
 have hsz:(w.alloc o).heap.size = w.heap.size + 1:=by simp
 have hoth:∀ k,k < w.heap.size -> (w.alloc o).heap[k]? = w.heap[k]?:=fun k hk => Below.heap_alloc w o k hk
 have hcell:∀ k x,k < w.heap.size -> (w.alloc o).cell? ⟨k,x,none⟩ = w.cell? ⟨k,x,none⟩:=fun k x hk => World.cell?_of_block (hoth k hk)
 have hlt:∀ k x v,w.cell? ⟨k,x,none⟩ = some v -> k < w.heap.size:=fun k x v hv => World.block_lt_of_cell? w ⟨k,x,none⟩ hv
 have hl:Later w P (w.alloc o) P:=⟨by omega,fun _ _ hp => hp,fun k x v _ hc => by rw [hcell k x (hlt k x v hc)]; exact hc,fun k _ hk _ => hoth k hk⟩
 have hs0:=h.pext.size
 refine ⟨fun S hS => ⟨hl,fun k hk => .of (hoth k (hS k hk)),fun _ _ _ hp => hp⟩,⟨h.pext.os,h.pext.tape,h.pext.output,by omega,fun k hk hF => ?_,h.pext.free,h.pext.prot,h.pext.old,fun k x hp => ?_⟩,fun x hx => ?_⟩
 ·rw [hoth k (by omega)]; exact h.pext.block k hk hF
 ·obtain ⟨v,hv⟩:=h.pext.there k x hp; exact ⟨v,hl.cell k x v hp hv⟩
 ·obtain ⟨v,hv⟩:=h.pext.there _ _ hx
  exact absurd (hlt _ _ v hv) (by omega)
theorem op_box {Q:Exit -> Act -> World -> Prop} (h:Sim C fr a w P T) {o:Oper} {t:TypeId} {x:Operand} (ho:o.op = .box t x)
  {r:Res Unit} {dl:List Nat} {pin:Nat -> Bool} (hs:sBox dl pin fr x = some r) {ds:List Nat} (hc:OpC C pin ds fr o.dst r) {z:r.X} (hz:r.run () = some z):Goal C fr a w o Q r z:=by
 obtain ⟨g1,g2,g3⟩:=h.alloced (.cells (a.eval x).cells t)
 have hrun:(execOp a.eval o).run C.M w = .ok (.value (.pointer (some ⟨w.heap.size,0,none⟩))) (w.alloc (.cells (a.eval x).cells t)):=by
  simp [execOp,ho,Instr.box,newVar,newRow]
 have hsz:(w.alloc (.cells (a.eval x).cells t)).heap.size = w.heap.size + 1:=by simp
 have hnew:(w.alloc (.cells (a.eval x).cells t)).heap[w.heap.size]? = some (.cells (a.eval x).cells t (0,0)):=heap_alloc_new w _
 have hrow:RowIs (w.alloc (.cells (a.eval x).cells t)) w.heap.size t (a.eval x).cells.toList.length:=⟨_,hnew,by simp⟩
 have hcells:CellsIn (w.alloc (.cells (a.eval x).cells t)) w.heap.size 0 (a.eval x).cells.toList:=fun j v hj => by
  rw [cell_of_row _ _ _ _ t (0,0) hnew,Nat.zero_add]
  simpa using hj
 -- an alias of a part: its cells are copied,and stay as they are
 have alias:∀ (p:Plc Unit),vluOf x (opx fr x) = some p -> Nd fr p = some r -> Goal C fr a w o Q r z:=by
  intro p hv hs
  unfold Nd at hs
  split at hs
  ·rename_i k hk
   obtain ⟨m,f,get,set,rfl,hroot,hsub,hown,hcell0⟩:=look_eq hk
   split at hs
   ·rename_i hcell
    cases hs
    obtain ⟨L,cs,h4,h1,h2,h3⟩:=vlu_rep h hv hroot hcell0
    obtain ⟨hin,cs',T1,T',T2,at_,hv',F,rfl,hLi⟩:=h.focus hroot hsub hown hcell0 hz h1
    have hrc:=F.rep
    have hcs:cs' = cs:=Loc.is_unique hLi h2 (by rw [(RepC.length _ hrc).1,h3])
    subst hcs
    have hcc:(a.eval x).cells.toList = cs':=by rw [h4]; exact N6 _ hrc
    refine Jh hrun ?_
    have hk:∀ S:List Nat,(∀ b ∈ S,b < w.heap.size) -> Keeps w P (w.alloc (.cells (a.eval x).cells t)) (P.add (w.alloc (.cells (a.eval x).cells t)) [w.heap.size]) S:=fun S hS =>
     ⟨⟨by omega,fun b o hp => .inl hp,(g1 [] (by simp)).later.cell,(g1 [] (by simp)).later.blk⟩,(g1 S hS).block,fun b hb o hp => by
      rcases hp with hp | ⟨hp,_⟩
      ·exact hp
      ·have:=hS b hb; simp at hp; omega⟩
    refine h.did hc (Tn:=fun _ => []) ⟨g2.add (fun b hb => .inl (by have:=h.pext.size; simp at hb; omega)),by omega,fun S hS => hk S fun b hb => (hS b hb).1,fun d hd => ?_,by simp,fun _ => List.nodup_nil,fun _ _ _ _ hb => by simp at hb,fun _ _ hb => by simp at hb⟩
    obtain ⟨e1,e2,e3,e4⟩:=hc.slot d hd
    have hsame:p.q.isEmpty = false -> ∀ b ∈ T p.i,SameB w (w.alloc (.cells (a.eval x).cells t)) b:=fun _ b hb => (g1 [b] (by simpa using (h.new _ b hb).2)).block b (by simp)
    have hid:p.i ≠ d:=fun e => by simp [Ent.on,e] at e3
    refine ⟨rfl,_,cs',w.heap.size,0,(Su (tmps:=C.at a w) (Tf:=T) ?_ fun hq => ⟨?_,hsame hq⟩).trans h1,resT_is h1 hsame h2,h3,rfl,fun j v hj => ⟨hcells j v (by rw [hcc]; exact hj),.inr ⟨by simp,v,hcells j v (by rw [hcc]; exact hj)⟩⟩⟩
    ·rw [hd,h.at_put e1 (D:=[]) (by simp) (fun S hS => hk S fun b hb => (hS b hb).1),if_neg hid]
    ·unfold updT
     rw [if_neg]
     rintro (e | e)
     ·rw [hd] at e; cases e; exact hid rfl
     ·rw [Res.wdom_ws] at e; simp at e
   ·cases hs
  ·cases hs
 -- a value that is taken: the box owns it
 have boxed:sBoxT dl pin fr x = some r -> Goal C fr a w o Q r z:=by
  intro hs
  unfold sBoxT at hs
  split at hs
  ·rename_i k hk
   split at hs
   ·rename_i hcell
    cases hs
    obtain ⟨Tx,Tn,tk⟩:=take_ok h hk hz
    have hlt:∀ b ∈ Tx,b < w.heap.size:=fun b hb => by obtain ⟨i,_,hi⟩:=tk.sub b hb; exact (h.new i b hi).2
    obtain ⟨hrc,_⟩:=Bb k.t hcell tk.rep
    obtain ⟨Tn',hd⟩:=h.give hc rfl tk.u (y:=z) (v:=.pointer (some ⟨w.heap.size,0,none⟩)) (Td:=w.heap.size :: Tx) g2 (by omega) (fun S hS => g1 S fun b hb => (hS b hb).1) (fun tm Tf => by
      simp only [RepE,RepV]
      exact ⟨w.heap.size,_,Tx,t,rfl,hrow,RepC.mono _ hrc (g1 Tx hlt),hcells,rfl,g3⟩)
     (List.nodup_cons.2 ⟨fun hx => absurd (hlt _ hx) (by omega),tk.nodup⟩) (fun b hb => by
      rcases List.mem_cons.1 hb with rfl | hb
      ·exact .inr ⟨Nat.le_refl _,by omega⟩
      ·exact .inl hb)
    exact Jh hrun (h.did hc hd)
   ·cases hs
  ·cases hs
 unfold sBox at hs
 split at hs
 ·rename_i i t0 q τ f hx
  exact alias ⟨i,t0,q,τ,f⟩ (by rw [hx]; rfl) hs
 ·rename_i τ m f hx
  split at hs
  ·rename_i j hj
   split at hs
   ·exact alias ⟨j,τ,[],τ,fun _ => []⟩ (by rw [hx]; simp only [vluOf,hj]) hs
   ·exact boxed hs
  ·exact boxed hs
 ·cases hs
end
end Go.Abs
