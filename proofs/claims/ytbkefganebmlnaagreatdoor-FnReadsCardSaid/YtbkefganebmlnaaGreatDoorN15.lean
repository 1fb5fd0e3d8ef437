/-
  The meta layer, part 15: calls of functions and of function values; function values made.
-/
import Derived.Test.YtbkefganebmlnaaGreatDoorN14
namespace Go.Abs
open Go.RowKit
set_option linter.unusedVariables false
set_option linter.unusedSimpArgs false
mutual
theorem RepV.free {M:Program} {w:World} {P:Prot}:(t:Ty) -> ∀ {m:Md} {x:t.den} {v:Value} {T:List Nat},RepV M t w P m x v T -> ∀ b ∈ T,∀ o,¬ P b o
 | .tup ts,_,_,_,_,h => by
  simp only [RepV] at h
  obtain ⟨vs,_,h⟩:=h
  exact RepVs.free ts h
 | .int k,_,_,_,_,h => RepC.free (.int k) (Bb _ rfl h).1
 | .bool,_,_,_,_,h => RepC.free .bool (Bb _ rfl h).1
 | .str,_,_,_,_,h => RepC.free .str (Bb _ rfl h).1
 | .fn ps r,_,_,_,_,h => RepC.free (.fn ps r) (Bb _ rfl h).1
 | .st ts,_,_,_,_,h => RepC.free (.st ts) (Bb _ rfl h).1
 | .sl e t,_,_,_,_,h => RepC.free (.sl e t) (Bb _ rfl h).1
 | .ptr t,_,_,_,_,h => RepC.free (.ptr t) (Bb _ rfl h).1
theorem RepVs.free {M:Program} {w:World} {P:Prot}:(ts:List Ty) -> ∀ {m:Md} {x:Ty.dens ts} {vs:List Value} {T:List Nat},RepVs M ts w P m x vs T -> ∀ b ∈ T,∀ o,¬ P b o
 | [],_,_,_,_,h => by simp only [RepVs] at h; rw [h.2]; simp
 | t :: ts,_,_,_,_,h => by
  simp only [RepVs] at h
  obtain ⟨v,r,T1,T2,rfl,rfl,h1,h2⟩:=h
  intro b hb
  rcases List.mem_append.1 hb with hb | hb
  ·exact RepV.free t h1 b hb
  ·exact RepVs.free ts h2 b hb
end
section
variable {C:Cx} {fr:Fr} {a:Act} {w:World} {P:Prot} {T:Nat -> List Nat}
def lentOf (T:Nat -> List Nat) (l:List Nat):List Nat:=l.flatMap T
theorem bind_some {α β:Type} {x:Option α} {f:α -> Option β} {y:β} (h:x.bind f = some y):∃ u,x = some u /\ f u = some y:=by
 cases x with
 | none => cases h
 | some u => exact ⟨u,rfl,h⟩
theorem Aeh {o:Oper} {c:Call} (ho:o.op = .call c) {f:FuncId} (hcc:c.callee = .value (.func f)) (hf:Has C.M f) :
  (execOp a.eval o).run C.M w = .ok (.enter f (List.toArray (c.args.toList.map a.eval))) w:=by
 obtain ⟨fn,h1,h2,h3⟩:=hf
 obtain ⟨bd,hb⟩:=Option.isSome_iff_exists.1 h3
 rw [show List.toArray (c.args.toList.map a.eval) = c.args.map a.eval by rw [<- Array.toList_map,Array.toArray_toList]]
 simp [execOp,ho,resolve,hcc,Act.eval,Deferred.ofValue,invoke,callFunc,h1,h2,hb]
theorem We (h:Sim C fr a w P T) {G:FuncId -> Option FSig}:∀ {xs:List Operand} {ts:List Ty} {im:Md} {io:Option Nat} {r:Args Unit ts} {i:Option (Io Unit)},sArgs G fr im io xs ts = some (r,i) -> ∀ j ∈ r.lend,∀ b ∈ T j,∀ o,¬ P b o:=by
 have one0:∀ {o:Operand} {t:Ty} {A:Arg Unit t},sArg0 fr o t = some A -> ∀ j ∈ A.lend,∀ b ∈ T j,∀ o,¬ P b o:=by
  intro o t A hs j hj b hb q hq
  unfold sArg0 at hs
  split at hs
  ·rename_i t' m f hx
   split at hs
   ·rename_i k _
    subst k
    split at hs
    ·cases hs; simp at hj
    ·split at hs
     ·rename_i i hi
      split at hs
      ·cases hs
       simp only [List.mem_singleton] at hj
       subst hj
       have hx':=Mv hi
       subst hx'
       have hfr:fr j = ⟨.val t' m,f⟩ \/ T j = []:=opx_or h hx
       rcases hfr with hfr | hfr
       ·exact RepV.free _ (h.root hfr).2 b hb q hq
       ·rw [hfr] at hb; simp at hb
      ·cases hs
     ·cases hs
   ·cases hs
  ·split at hs
   ·rename_i p hp
    split at hs
    ·rename_i k e hk _
     have e:=e
     obtain ⟨i,t0,q',t',is⟩:=p
     simp only at e
     subst e
     split at hs
     ·cases hs
      simp only [List.mem_singleton] at hj
      subst hj
      obtain ⟨m,f,get,set,rfl,hroot,hsub,hown,hcell0⟩:=look_eq hk
      exact h.free hcell0 hroot b hb q hq
     ·cases hs
    ·cases hs
   ·cases hs
 have one:∀ {o:Operand} {t:Ty} {A:Arg Unit t},sArg1 G fr o t = some A -> ∀ j ∈ A.lend,∀ b ∈ T j,∀ o,¬ P b o:=by
  intro o t A hs j hj
  unfold sArg1 at hs
  split at hs
  ·unfold sFun at hs
   split at hs
   ·split at hs
    ·split at hs
     ·cases hs; simp at hj
     ·cases hs
    ·cases hs
   ·cases hs
  ·unfold sNilArg at hs
   split at hs
   ·cases hs; simp at hj
   ·cases hs
  ·exact one0 hs j hj
 intro xs
 induction xs with
 | nil =>
  intro ts im io r i hs j hj
  cases ts with
  | nil => cases io <;> simp only [sArgs,Option.some.injEq,Prod.mk.injEq] at hs <;> (rw [<- hs.1] at hj; simp at hj)
  | cons _ _ => cases io <;> simp [sArgs] at hs
 | cons x xs ih =>
  intro ts im io r i hs j hj
  cases ts with
  | nil => rcases io with _ | _ | _ <;> simp [sArgs] at hs
  | cons t ts =>
   rcases io with _ | _ | n
   ·simp only [sArgs] at hs
    split at hs
    ·rename_i A r' i' hA hr'
     simp only [Option.some.injEq,Prod.mk.injEq] at hs
     obtain ⟨rfl,rfl⟩:=hs
     rcases List.mem_append.1 hj with hj | hj
     ·exact one hA j hj
     ·exact ih hr' j hj
    ·cases hs
   ·simp only [sArgs] at hs
    split at hs
    ·rename_i p hp
     split at hs
     ·rename_i e k r' i' _ hk hr'
      split at hs
      ·simp only [Option.some.injEq,Prod.mk.injEq] at hs
       obtain ⟨rfl,rfl⟩:=hs
       exact ih hr' j hj
      ·cases hs
     ·cases hs
    ·cases hs
   ·simp only [sArgs] at hs
    split at hs
    ·rename_i A r' i' hA hr'
     simp only [Option.some.injEq,Prod.mk.injEq] at hs
     obtain ⟨rfl,rfl⟩:=hs
     rcases List.mem_append.1 hj with hj | hj
     ·exact one hA j hj
     ·exact ih hr' j hj
    ·cases hs
theorem op_call {Q:Exit -> Act -> World -> Prop} (h:Sim C fr a w P T) {o:Oper} {c:Call} (ho:o.op = .call c) {f:FuncId} (hcc:c.callee = .value (.func f))
  {G:FuncId -> Option FSig} (hG:∀ f s,G f = some s -> SigR C.M C.w0 C.P0 f s) {sg:FSig} (hsg:SigR C.M C.w0 C.P0 f sg) {dl:List Nat} {r:Res Unit} (hs:sCall G dl fr c.args.toList sg = some r) {pin:Nat -> Bool} {ds:List Nat} (hc:OpC C pin ds fr o.dst r) {z:r.X} (hz:r.run () = some z):Goal C fr a w o Q r z:=by
 obtain ⟨ps,cs,io,im,rt,m,F⟩:=sg
 obtain ⟨hf,hcall⟩:=hsg
 have hrun:=Aeh (a:=a) (w:=w) ho hcc hf
 cases cs with
 | cons _ _ => simp [sCall] at hs
 | nil =>
  simp only [sCall] at hs
  have hw0:=h.pext.size
  split at hs
  ·rename_i A hargs
   split at hs
   ·split at hs
    ·rename_i hfresh
     cases hs
     obtain ⟨x,hx,hz⟩:=bind_some hz
     obtain ⟨y,hy,hz⟩:=bind_some hz
     cases hz
     obtain ⟨_,hr⟩:=Sh h hG hargs hx (D:=lentOf T A.lend) fun j hj b hb => List.mem_flatMap.2 ⟨j,hj,hb⟩
     have hDf:∀ b ∈ lentOf T A.lend,∀ o,¬ P b o:=fun b hb => by
      obtain ⟨j,hj,hbj⟩:=List.mem_flatMap.1 hb
      exact We h hargs j hj b hbj
     have hDw:∀ b ∈ lentOf T A.lend,b < w.heap.size:=fun b hb => by
      obtain ⟨j,hj,hbj⟩:=List.mem_flatMap.1 hb
      exact (h.new j b hbj).2
     have hC:=hcall w (P.add w (lentOf T A.lend)) x () (c.args.toList.map a.eval) [] [] y (h.pext.later.trans (Later.add w P _)) (h.pext.there.add _) (ArgsR.of_none hr) List.nodup_nil (by simp) rfl hy
     rw [List.append_nil] at hC
     unfold Goal Oper.wp
     rw [hrun]
     refine hC.mono ?_
     rintro e w' ⟨u,P1,Tr,Tq,rfl,hp,hrep,hio,hnd,hsub⟩
     have hp2:=lent_ok hDf hDw hp
     have hTq:Tq = []:=by
      replace hio:IoR C.M w' P1 im ps none y.2 (c.args.toList.map a.eval) Tq:=hio
      simpa only [IoR] using hio
     subst hTq
     rw [List.append_nil] at hnd hsub
     have hrep':RepV C.M rt w' (P1.sub (lentOf T A.lend)) m y.1 u Tr:=by
      rcases Bool.or_eq_true _ _ ▸ hfresh with hl | hl
      ·have hl:A.lend = []:=List.isEmpty_iff.1 hl
       have:P1.sub (lentOf T A.lend) = P1:=by funext b o; simp [Prot.sub,lentOf,hl]
       rw [this]; exact hrep
      ·exact RepV.bare (fun b o hb => hb.1) rt hrep hl
     obtain ⟨Tn',hd⟩:=h.give hc (us:=[]) rfl TakeU.nil (y:=y.1) (v:=u) (Td:=Tr) (h.pext.trans hp2 (by simp)) hp2.size (fun S hS => hp2.keeps S fun b hb => ⟨(hS b hb).1,by simp⟩)
      (fun tm Tf => by simp only [RepE]; exact hrep') hnd (fun b hb => by
       rcases hsub b hb with h' | h'
       ·simp at h'
       ·exact .inr h')
     exact h.did hc hd
    ·cases hs
   ·cases hs
  ·rename_i A t k hargs
   split at hs
   ·rename_i back hback
    split at hs
    ·rename_i hcond
     simp only [Bool.and_eq_true,Bool.not_eq_true',Bool.or_eq_true] at hcond
     obtain ⟨hfresh,hnl⟩:=hcond
     cases hs
     obtain ⟨x,hx,hy⟩:=bind_some hz
     have hnone:io ≠ none:=fun e => by
      subst e
      cases hback
     obtain ⟨n,rfl⟩:=Option.ne_none_iff_exists'.1 hnone
     have ih:=args_ok h hG hargs hx (D:=lentOf T A.lend) fun j hj b hb => List.mem_flatMap.2 ⟨j,hj,hb⟩
     rcases ih with ih | ⟨p,ox,k',y0,e1,e2,e3,e4,e5,e6,e7,e8⟩
     ·cases ih
     cases e1
     obtain ⟨m0,f0,get,set,rfl,hroot,hsub,hown,hcell⟩:=look_eq e3
     obtain ⟨L,cs,h4,h1,h2,h3⟩:=vlu_rep h e2 hroot hcell
     obtain ⟨hin,cs',T1,T',T2,at_,hv',Fo,rfl,hLi⟩:=h.focus hroot hsub hown hcell e4 h1
     have hcs:cs' = cs:=Loc.is_unique hLi h2 (by rw [(RepC.length _ Fo.rep).1,h3])
     subst hcs
     have e5:m0.at p.q = im:=e5
     have hnT:(T p.i).Nodup:=h.nodup p.i
     rw [Fo.split] at hnT
     obtain ⟨n1,n2,n3⟩:=List.nodup_append.1 hnT
     obtain ⟨n4,n5,n6⟩:=List.nodup_append.1 n2
     have hpi:p.i ∉ A.lend:=by
      intro hm
      have:A.lend.contains p.i = true:=List.contains_iff_mem.2 hm
      rw [show (A.lend.contains p.i) = false from hnl] at this
      cases this
     have hDf:∀ b ∈ lentOf T A.lend,∀ o,¬ P b o:=fun b hb => by
      obtain ⟨j,hj,hbj⟩:=List.mem_flatMap.1 hb
      exact We h hargs j hj b hbj
     have hDw:∀ b ∈ lentOf T A.lend,b < w.heap.size:=fun b hb => by
      obtain ⟨j,hj,hbj⟩:=List.mem_flatMap.1 hb
      exact (h.new j b hbj).2
     have hDi:∀ b ∈ T p.i,b ∉ lentOf T A.lend:=fun b hb hm => by
      obtain ⟨j,hj,hbj⟩:=List.mem_flatMap.1 hm
      exact h.apart p.i j (fun e => hpi (e ▸ hj)) b hb hbj
     have hfr:=h.free hcell hroot
     have hT':∀ b ∈ T',b ∈ T p.i:=fun b hb => by rw [Fo.split]; simp [hb]
     have hT1:∀ b ∈ T1,b ∈ T p.i:=fun b hb => by rw [Fo.split]; simp [hb]
     have hT2:∀ b ∈ T2,b ∈ T p.i:=fun b hb => by rw [Fo.split]; simp [hb]
     have hlt:∀ b ∈ T p.i,b < w.heap.size:=fun b hb => (h.new _ b hb).2
     have harg:RepV C.M p.t w (P.add w (lentOf T A.lend)) im y0 (a.eval ox) T':=by
      rw [<- e5,h4]
      exact RepV.mono _ (Bh _ Fo.rep) (Keeps.add fun b hb => hDi b (hT' b hb))
     have hC:=hcall w (P.add w (lentOf T A.lend)) x () (c.args.toList.map a.eval) [] T' z (h.pext.later.trans (Later.add w P _)) (h.pext.there.add _) (e7 T' harg) n4
      (fun b hb => ⟨hlt b (hT' b hb),fun o ho => by
       rcases ho with ho | ⟨ho,_⟩
       ·exact hfr b (hT' b hb) o ho
       ·exact hDi b (hT' b hb) ho⟩) rfl hy
     rw [List.append_nil] at hC
     unfold Goal Oper.wp
     rw [hrun]
     refine hC.mono ?_
     rintro e w' ⟨u,P1,Tr,Tq,rfl,hp,hrep,hio,hnd,hsb⟩
     have hp2:=lent_ok hDf hDw hp
     generalize hP2:P1.sub (lentOf T A.lend) = P2 at hp2
     have hPs:∀ b o,P2 b o -> P1 b o:=fun b o hb => by rw [<- hP2] at hb; exact hb.1
     have hPe:A.lend = [] -> P1 = P2:=fun hl => by rw [<- hP2]; funext b o; simp [Prot.sub,lentOf,hl]
     have hrep':RepV C.M rt w' P2 m z.1 u Tr:=by
      rcases hfresh with hl | hl
      ·rw [<- hPe (List.isEmpty_iff.1 hl)]; exact hrep
      ·exact RepV.bare hPs rt hrep hl.1
     have hio0:=e8 back hback w' P1 z.2 Tq hio
     have hio':RepV C.M p.t w' P2 im (back z.2) (a.eval ox) Tq:=by
      rcases hfresh with hl | hl
      ·rw [<- hPe (List.isEmpty_iff.1 hl)]; exact hio0
      ·exact RepV.bare hPs p.t hio0 hl.2
     have hpc:p.t.cell = true:=RepC.cell_of Fo.rep
     have hkeep:∀ S:List Nat,(∀ b ∈ S,b < w.heap.size /\ b ∉ T p.i) -> Keeps w P w' P2 S:=fun S hS => hp2.keeps S fun b hb => ⟨(hS b hb).1,fun hm => (hS b hb).2 (hT' b hm)⟩
     have hk12:Keeps w P w' P2 (T1 ++ T2):=hp2.keeps _ fun b hb => by
      rcases List.mem_append.1 hb with hb | hb
      ·exact ⟨hlt b (hT1 b hb),fun hm => n3 b hb b (by simp [hm]) rfl⟩
      ·exact ⟨hlt b (hT2 b hb),fun hm => n6 b hm b hb rfl⟩
     have hLi2:(at_ (.vals (C.at a w p.i).cells.toList)).is w' cs':=by
      have hseg:=Fo.seg (.vals (C.at a w p.i).cells.toList)
      generalize at_ (.vals (C.at a w p.i).cells.toList) = L at hLi hseg
      cases L with
      | vals l => exact hLi
      | mem b off =>
       intro j v hj
       have hjl:=(List.getElem?_eq_some_iff.1 hj).1
       have hb1:b ∈ T1:=by
        rcases hseg b (off + j) ⟨rfl,by omega,by omega⟩ with h' | h'
        ·exact h'.elim
        ·exact h'
       rw [(hk12.block b (by simp [hb1])).2]
       exact hLi j v hj
     have hcc2:(a.eval ox).cells.toList = cs':=by rw [h4]; exact N6 _ Fo.rep
     have hrc2:RepC C.M p.t w' P2 im (back z.2) cs' Tq:=by
      have:=(Bb p.t hpc hio').1
      rwa [hcc2] at this
     obtain ⟨cs'',q1,q2⟩:=Fo.plug (.vals (C.at a w p.i).cells.toList) w' P2 im m0 (back z.2) cs' Tq rfl (fun _ _ => trivial) hk12.later hrc2 hLi2 (fun c hc e n hr => (hk12.block c hc).1 e n hr)
      (fun c hc o _ => (hk12.block c hc).2 o) (fun _ _ hx _ => hx.elim) hk12.old (.inl ⟨rfl,e5.symm⟩)
     have q1:(C.at a w p.i).cells.toList = cs'':=q1
     subst q1
     have hrv2:RepV C.M p.t0 w' P2 m0 (set (f0 ()) (p.is ()) (back z.2)) (C.at a w p.i) (T1 ++ (Tq ++ T2)):=by
      have:=Bh p.t0 q2
      rwa [hv'] at this
     obtain ⟨nr,nq,nrq⟩:=List.nodup_append.1 hnd
     have hnew:∀ b ∈ Tr ++ Tq,b ∉ T1 /\ b ∉ T2:=fun b hb => by
      rcases hsb b hb with h' | h'
      ·exact ⟨fun hm => n3 b hm b (by simp [h']) rfl,fun hm => n6 b h' b hm rfl⟩
      ·exact ⟨fun hm => by have:=hlt b (hT1 b hm); omega,fun hm => by have:=hlt b (hT2 b hm); omega⟩
     have hdne:∀ d,o.dst = some d -> d ≠ p.i:=fun d hd e => (hc.slot d hd).2.2.2 _ (List.mem_cons_self) (by simp [e])
     refine h.did hc (y:=z) (v:=u) (w':=w') (P':=P2) (Tn:=fun t => if some t = o.dst then Tr else if t = p.i then T1 ++ (Tq ++ T2) else []) ⟨h.pext.trans hp2 fun b hb => ?_,hp2.size,fun S hS => hkeep S fun b hb => ⟨(hS b hb).1,fun hm => (hS b hb).2 ?_⟩,fun d hd => ?_,fun q hq tm Tf => ?_,fun t => ?_,fun t u htu b hb => ?_,fun t b hb => ?_⟩
     ·exact (h.new _ b (hT' b hb)).1
     ·exact List.mem_flatMap.2 ⟨p.i,by simp,hm⟩
     ·rw [if_pos hd.symm]
      simp only [RepE]; exact hrep'
     ·rcases List.mem_cons.1 hq with rfl | hq
      ·rw [if_neg (fun e => hdne _ e.symm rfl),if_pos rfl]
       simp only [RepE]; exact hrv2
      ·have hq0:=hq
       obtain ⟨q',hq',rfl⟩:=mem_usX hq
       obtain ⟨e,hon⟩:=Kq (M:=C.M) (w:=w) (P:=P) hq'
       have hne:q'.1 ≠ p.i:=fun e' => by rw [e',hroot] at hon; simp [Ent.onT] at hon
       have hnd':¬ some q'.1 = o.dst:=fun e' => (hc.slot _ e'.symm).2.2.2 _ (List.mem_cons_of_mem _ hq0) rfl
       rw [if_neg hnd',if_neg hne]
       obtain ⟨qi,qe⟩:=q'
       simp only at e
       subst e
       rfl
     ·split
      ·exact nr
      ·split
       ·exact List.nodup_append.2 ⟨n1,List.nodup_append.2 ⟨nq,n5,fun b hb c hc e => (hnew b (by simp [hb])).2 (e ▸ hc)⟩,fun b hb c hc e => by
         subst e
         rcases List.mem_append.1 hc with hc | hc
         ·exact (hnew b (by simp [hc])).1 hb
         ·exact n3 b hb b (by simp [hc]) rfl⟩
       ·exact List.nodup_nil
     ·split at hb
      ·rename_i ht
       rw [if_neg (fun e => htu (Option.some.inj (ht.trans e.symm)))]
       split
       ·intro hm
        rcases List.mem_append.1 hm with hm | hm
        ·exact (hnew b (by simp [hb])).1 hm
        ·rcases List.mem_append.1 hm with hm | hm
         ·exact nrq b hb b hm rfl
         ·exact (hnew b (by simp [hb])).2 hm
       ·simp
      ·split at hb
       ·rename_i ht
        split
        ·intro hm
         rcases List.mem_append.1 hb with hb | hb
         ·exact (hnew b (by simp [hm])).1 hb
         ·rcases List.mem_append.1 hb with hb | hb
          ·exact nrq b hm b hb rfl
          ·exact (hnew b (by simp [hm])).2 hb
        ·rw [if_neg (fun e => htu (ht.trans e.symm))]; simp
       ·simp at hb
     ·have key:∀ b ∈ T p.i,b ∈ (((p.i,⟨Ent.val p.t0 m0,fun s (y:rt.den × ioT ps (some n)) => set (f0 s) (p.is s) (back y.2)⟩) :: usX (hung dl fr p.i):List (Nat × ((e:Ent) × (Unit -> (rt.den × ioT ps (some n)) -> e.pay)))).map (·.1)).flatMap T:=fun b hb =>
       List.mem_flatMap.2 ⟨p.i,by simp,hb⟩
      have both:∀ b ∈ Tr ++ Tq,b ∈ T p.i \/ (w.heap.size <= b /\ b < w'.heap.size):=fun b hb => by
       rcases hsb b hb with h' | h'
       ·exact .inl (hT' b h')
       ·exact .inr h'
      have key2:b ∈ T p.i \/ (w.heap.size <= b /\ b < w'.heap.size):=by
       split at hb
       ·exact both b (by simp [hb])
       ·split at hb
        ·rcases List.mem_append.1 hb with hb | hb
         ·exact .inl (hT1 b hb)
         ·rcases List.mem_append.1 hb with hb | hb
          ·exact both b (by simp [hb])
          ·exact .inl (hT2 b hb)
        ·simp at hb
      rcases key2 with h' | h'
      ·exact .inl (key b h')
      ·exact .inr h'
    ·cases hs
   ·cases hs
  ·cases hs
end
end Go.Abs
