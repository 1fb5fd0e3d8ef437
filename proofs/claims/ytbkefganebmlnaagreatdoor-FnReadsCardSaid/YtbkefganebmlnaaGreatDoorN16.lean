/-
  The meta layer, part 16: function values called and made; any operation.
-/
import Derived.Test.YtbkefganebmlnaaGreatDoorN15
namespace Go.Abs
open Go.RowKit
set_option linter.unusedVariables false
set_option linter.unusedSimpArgs false
section
variable {C:Cx} {fr:Fr} {a:Act} {w:World} {P:Prot} {T:Nat -> List Nat}
theorem Ahs {Q:Exit -> Act -> World -> Prop} (h:Sim C fr a w P T) {o:Oper} {c:Call} (ho:o.op = .call c) {x:Operand} (hcc:c.callee = .value x)
  {G:FuncId -> Option FSig} (hG:∀ f s,G f = some s -> SigR C.M C.w0 C.P0 f s) {r:Res Unit} (hs:sCallV G fr c.args.toList (opx fr x) = some r) {pin:Nat -> Bool} {ds:List Nat} (hc:OpC C pin ds fr o.dst r) {z:r.X} (hz:r.run () = some z):Goal C fr a w o Q r z:=by
 unfold sCallV at hs
 split at hs
 ·rename_i ps rt m F hx
  split at hs
  ·rename_i A i hargs
   split at hs
   ·rename_i hfresh
    cases hs
    obtain ⟨y,hy,hz⟩:=bind_some hz
    have hr:=opx_val h hx rfl
    simp only [RepV] at hr
    obtain ⟨_,g,fs,caps,hv,⟨fn,h1,h2,h3⟩,hcall⟩:=hr
    have hrun:(execOp a.eval o).run C.M w = .ok (.enter g (fs ++ List.toArray (c.args.toList.map a.eval) ++ caps)) w:=by
     obtain ⟨bd,hb⟩:=Option.isSome_iff_exists.1 h3
     rw [show List.toArray (c.args.toList.map a.eval) = c.args.map a.eval by rw [<- Array.toList_map,Array.toArray_toList]]
     simp [execOp,ho,resolve,hcc,hv,Deferred.ofValue,invoke,callFunc,h1,h2,hb]
    obtain ⟨_,hr⟩:=Sh h hG hargs hy (D:=lentOf T A.lend) fun j hj b hb => List.mem_flatMap.2 ⟨j,hj,hb⟩
    have hDf:∀ b ∈ lentOf T A.lend,∀ o,¬ P b o:=fun b hb => by
     obtain ⟨j,hj,hbj⟩:=List.mem_flatMap.1 hb
     exact We h hargs j hj b hbj
    have hDw:∀ b ∈ lentOf T A.lend,b < w.heap.size:=fun b hb => by
     obtain ⟨j,hj,hbj⟩:=List.mem_flatMap.1 hb
     exact (h.new j b hbj).2
    have hC:=hcall w (P.add w (lentOf T A.lend)) y (c.args.toList.map a.eval) z (Later.add w P _) (h.pext.there.add _) hr hz
    unfold Goal Oper.wp
    rw [hrun]
    refine hC.mono ?_
    rintro e w' ⟨u,P1,rfl,hp,hrep⟩
    have hp2:=lent_ok hDf hDw hp
    have hrep':RepV C.M rt w' (P1.sub (lentOf T A.lend)) .p z u []:=by
     rcases Bool.or_eq_true _ _ ▸ hfresh with hl | hl
     ·have hl:A.lend = []:=List.isEmpty_iff.1 hl
      have:P1.sub (lentOf T A.lend) = P1:=by funext b o; simp [Prot.sub,lentOf,hl]
      rw [this]; exact hrep
     ·simp only [Bool.and_eq_true] at hl
      obtain ⟨k1,k2⟩:=Bb rt hl.2 hrep
      rw [<- k2]
      exact Bh rt (RepC.flat rt hl.1 k1).1
    obtain ⟨Tn',hd⟩:=h.give hc (us:=[]) rfl TakeU.nil (y:=z) (v:=u) (Td:=[]) (h.pext.trans hp2 (by simp)) hp2.size (fun S hS => hp2.keeps S fun b hb => ⟨(hS b hb).1,by simp⟩)
     (fun tm Tf => by simp only [RepE]; exact hrep') List.nodup_nil (by simp)
    exact h.did hc hd
   ·cases hs
  ·cases hs
 ·cases hs
theorem caps_ok (h:Sim C fr a w P T) {dl:List Nat} {pin:Nat -> Bool}:∀ {xs:List Operand} {ts:List Ty} {H:Unit -> Ty.dens ts} {us:List (Nat × Ex Unit)},sCaps dl pin fr xs ts = some (H,us) ->
  ∀ {D:List Nat},(∀ u ∈ us,∀ b ∈ T u.1,b ∈ D) -> CapR C.M w (P.add w D) ts (H ()) (xs.map a.eval) /\ ∀ u ∈ us,∀ tm Tf,RepE C.M w (P.add w D) tm Tf u.2 (C.at a w u.1) []
 | [],[],H,us,hs,D,hD => by
  simp only [sCaps,Option.some.injEq,Prod.mk.injEq] at hs
  obtain ⟨rfl,rfl⟩:=hs
  exact ⟨rfl,by simp⟩
 | [],_ :: _,H,us,hs,D,hD => by simp [sCaps] at hs
 | _ :: _,[],H,us,hs,D,hD => by simp [sCaps] at hs
 | x :: xs,t :: ts,H,us,hs,D,hD => by
  simp only [sCaps] at hs
  split at hs
  ·rename_i t' m f i H' us' hx hi hr
   split at hs
   ·rename_i k _
    subst k
    have hx':=Mv hi
    subst hx'
    have hfr:fr i = ⟨.val (.ptr t') m,f⟩:=opx_at hx (by simp) (by simp)
    have hlt:i < gB:=opx_g (fr:=fr) (x:=.tmp i) (fun e => by rw [hx] at e; exact absurd (congrArg Sigma.fst e) (by simp [Ex.non])) rfl
    have hev:a.eval (.tmp i) = C.at a w i:=(Cx.at_n hlt).symm
    have hrt:=(h.root hfr).2
    split at hs
    ·rename_i hf
     simp only [Option.some.injEq,Prod.mk.injEq] at hs
     obtain ⟨rfl,rfl⟩:=hs
     obtain ⟨k1,k2⟩:=caps_ok h hr hD
     exact ⟨⟨_,_,rfl,RepV.mono (.ptr t') (opx_val h hx hf) (Keeps.add (by simp)),k1⟩,k2⟩
    ·split at hs
     ·rename_i hcond
      simp only [Bool.and_eq_true] at hcond
      simp only [Option.some.injEq,Prod.mk.injEq] at hs
      obtain ⟨rfl,rfl⟩:=hs
      obtain ⟨k1,k2⟩:=caps_ok h hr (D:=D) fun u hu => hD u (by simp [hu])
      have hfz:RepV C.M (.ptr t') w (P.add w D) .p (f ()) (C.at a w i) []:=RepV.freeze (Later.add w P D) _ hrt hcond.1.2 fun b hb o v hv => .inr ⟨hD (i,⟨.val (.ptr t') .p,f⟩) (by simp) b hb,v,hv⟩
      refine ⟨⟨_,_,rfl,by rw [hev]; exact hfz,k1⟩,fun u hu tm Tf => ?_⟩
      rcases List.mem_append.1 hu with hu | hu
      ·rcases List.mem_cons.1 hu with rfl | hu
       ·exact hfz
       ·rw [(Kq (M:=C.M) (w:=w) (P:=P) hu).1]; rfl
      ·exact k2 u hu tm Tf
     ·cases hs
   ·cases hs
  ·cases hs
theorem Aby {Q:Exit -> Act -> World -> Prop} (h:Sim C fr a w P T) {o:Oper} {f:FuncId} {fs cs:Array Operand} (ho:o.op = .makeFunc (.func f) fs cs) (hfs:fs.isEmpty = true)
  {Tb:Tab} (hsg:∀ f s,Tb.sg f = some s -> SigR C.M C.w0 C.P0 f s) {dl:List Nat} {r:Res Unit} (hs:Ms dl Tb fr f cs.toList = some r) {pin:Nat -> Bool} {ds:List Nat} (hc:OpC C pin ds fr o.dst r) {z:r.X}:Goal C fr a w o Q r z:=by
 have hfs':fs = #[]:=by simpa using hfs
 subst hfs'
 have hrun:(execOp a.eval o).run C.M w = .ok (.value (.func (.func f) #[] (cs.map a.eval))) w:=by
  simp [execOp,ho,Instr.makeFunc]
 unfold Ms at hs
 split at hs
 ·rename_i ps cts im rt m F hsf
  obtain ⟨hf,hcall⟩:=hsg _ _ hsf
  split at hs
  ·rename_i H us hcaps
   split at hs
   ·rename_i hnh
    cases hs
    obtain ⟨k1,k2⟩:=caps_ok h hcaps (D:=(us.map (·.1)).flatMap T) fun u hu b hb => List.mem_flatMap.2 ⟨u.1,List.mem_map_of_mem hu,hb⟩
    have hD0:∀ b ∈ (us.map (·.1)).flatMap T,C.w0.heap.size <= b \/ b ∈ C.F:=fun b hb => by
     obtain ⟨j,hj,hbj⟩:=List.mem_flatMap.1 hb
     exact (h.new j b hbj).1
    refine Jh hrun (h.did hc (Tn:=fun _ => []) ⟨h.pext.add hD0,Nat.le_refl _,fun S hS => Keeps.add fun b hb => ?_,fun d hd => ?_,fun p hp tm Tf => ?_,fun _ => List.nodup_nil,fun _ _ _ _ hb => by simp at hb,fun _ _ hb => by simp at hb⟩)
    ·have:=(hS b hb).2
     rw [usX_map] at this
     exact this
    ·simp only [RepE,RepV]
     refine ⟨trivial,f,#[],cs.map a.eval,rfl,hf,fun w' P' x vs y hl ht hA hy => ?_⟩
     obtain ⟨y2,hy2,hy⟩:=bind_some hy
     cases hy
     have hC:=hcall w' P' x (H ()) vs (cs.toList.map a.eval) [] y2 (h.pext.later.trans ((Later.add w P _).trans hl)) ht (ArgsR.of_none hA) List.nodup_nil (by simp) (CapR.mono hl k1) hy2
     have e1:List.toArray (vs ++ cs.toList.map a.eval) = #[] ++ vs.toArray ++ cs.map a.eval:=by
      apply Array.toList_inj.1
      simp
     rw [e1] at hC
     refine hC.mono ?_
     rintro e w'' ⟨u,P1,Tr,Tq,rfl,hp,hrep,hio,hnd,hsub⟩
     have hio:Tq = []:=by
      replace hio:IoR C.M w'' P1 im ps none y2.2 vs Tq:=hio
      simpa only [IoR] using hio
     subst hio
     refine ⟨u,P1.add w'' Tr,rfl,hp.add fun b hb => ?_,RepV.freeze (Later.add w'' P1 Tr) rt hrep hnh fun b hb o v hv => .inr ⟨hb,v,hv⟩⟩
     rcases hsub b (by simp [hb]) with h' | h'
     ·simp at h'
     ·exact .inl h'.1
    ·obtain ⟨q,hq,rfl⟩:=mem_usX hp
     exact k2 q hq tm Tf
   ·cases hs
  ·cases hs
 ·cases hs
theorem Abb {Q:Exit -> Act -> World -> Prop} {Tb:Tab} (hT:TabOk C.M Tb) (hsg:∀ f s,Tb.sg f = some s -> SigR C.M C.w0 C.P0 f s) (h:Sim C fr a w P T) {o:Oper} {r:Res Unit} {dl ds:List Nat}
  (hs:sop Tb dl fr o = some r) (hc:OpC C Tb.pin ds fr o.dst r) {y:r.X} (hy:r.run () = some y):Goal C fr a w o Q r y:=by
 unfold sop at hs
 split at hs
 ·rename_i x ho
  by_cases hm:∃ ts m f,opx fr x = ⟨.val (.tup ts) m,f⟩ /\ ¬ (Ty.tup ts).fz m = true
  ·obtain ⟨ts,m,f,hx,hf⟩:=hm
   exact Aht h ho hx hf hs hc
  ·exact op_move h (x:=x) (fun v hv => by simp [execOp,ho,hv]) hs (fun ts m f hx => Classical.byContradiction fun hf => hm ⟨ts,m,f,hx,hf⟩) hc
 ·rename_i x ho
  split at hs
  ·exact Ah9 h ho hs hc
  ·exact Agb h ho hs hc hy
 ·rename_i t x ho
  exact op_box h ho hs hc hy
 ·rename_i t ho
  exact Ahb h ho hT hs hc
 ·rename_i t x ho
  split at hs
  ·rename_i his
   exact op_load h ho hT his hs hc hy
  ·cases hs
 ·rename_i t x v ho
  split at hs
  ·rename_i hd
   split at hs
   ·rename_i his
    exact Afr h hd ho hT his hs hc hy
   ·cases hs
  ·cases hs
 ·rename_i x ho
  exact op_nil h ho hs hc
 ·rename_i op t x yy yt ho
  have bin:∀ r:Res Unit,sBin op (opx fr x) (opx fr yy) = some r -> OpC C Tb.pin ds fr o.dst r -> (∀ ts m f,opx fr x ≠ ⟨.val (.st ts) m,f⟩) -> (∀ m f,opx fr x = ⟨.val .bool m,f⟩ -> Tb.is t .bool = true) -> ∀ y:r.X,r.run () = some y -> Goal C fr a w o Q r y:=by
   intro r hs hc hst hb y hy
   unfold sBin at hs
   split at hs
   ·rename_i k m f k' m' g hx hyy
    exact Aft h ho (opx_int h hx) (opx_int h hyy) hs hc hy
   ·rename_i m f m' g hx hyy
    exact Afc h ho (opx_str h hx) (opx_str h hyy) hs hc hy
   ·rename_i m f m' g hx hyy
    exact Ad0 h ho (Va h hx) (Va h hyy) (Tab.of_is hT (hb m f hx)).kind hs hc
   ·rename_i ts m f ts' m' g hx hyy
    exact absurd hx (hst ts m f)
   ·cases hs
  split at hs
  ·rename_i m he
   split at hs
   ·rename_i his
    exact bin r hs hc (fun ts m' f hx => by rw [hx] at he; cases he) (fun _ _ _ => his) y hy
   ·cases hs
  ·rename_i ts m he
   split at hs
   ·rename_i his
    simp only [Bool.and_eq_true] at his
    obtain ⟨his,hfz⟩:=his
    unfold sBin at hs
    split at hs
    ·rename_i k m f k' m' g hx hyy
     rw [hx] at he; cases he
    ·rename_i m f m' g hx hyy
     rw [hx] at he; cases he
    ·rename_i m f m' g hx hyy
     rw [hx] at he; cases he
    ·rename_i ts m f ts' m' g hx hyy
     rw [hx] at he; cases he
     split at hs
     ·rename_i k _
      subst k
      split at hs
      ·rename_i hfz'
       exact Ag7 h ho (opx_val h hx hfz) (opx_val h hyy hfz') (Tab.of_is hT his) hs hc
      ·cases hs
     ·cases hs
    ·cases hs
   ·cases hs
  ·rename_i hne hne2
   exact bin r hs hc (fun ts m f hx => hne2 ts m (congrArg Sigma.fst hx)) (fun m f hx => absurd (congrArg Sigma.fst hx) (hne m)) y hy
 ·rename_i op t x ho
  unfold sUn at hs
  split at hs
  ·rename_i m f hx
   exact Afd h ho (Va h hx) hs hc
  ·rename_i k m f hx
   exact Agl h ho (opx_int h hx) hs hc
  ·cases hs
 ·rename_i t x j ho
  split at hs
  ·rename_i his
   exact Agf h ho hT his hs hc
  ·cases hs
 ·rename_i t x j ho
  split at hs
  ·rename_i his
   exact Afj h ho hT his hs hc hy
  ·cases hs
 ·rename_i t x i ho
  split at hs
  ·rename_i his
   exact Abe h ho hT his hs hc hy
  ·cases hs
 ·rename_i t x i ho
  split at hs
  ·rename_i his
   exact Ahp h ho hT his hs hc hy
  ·cases hs
 ·rename_i x j ho
  exact Adt h ho hs hc
 ·rename_i t ps ho
  exact Ahv h ho hT hs hc hy
 ·rename_i t n ps ho
  exact Yz h ho hT hs hc hy
 ·rename_i t l c ho
  exact Aao h ho hT hs hc hy
 ·rename_i t x lo hi ho
  split at hs
  ·rename_i his
   exact Agy h ho hT his hs hc hy
  ·cases hs
 ·rename_i s d x ho
  split at hs
  ·rename_i his
   exact Aem h ho hT his hs hc
  ·cases hs
 ·rename_i f fs cs ho
  split at hs
  ·rename_i hfs
   exact Aby h ho hfs hsg hs hc
  ·cases hs
 ·rename_i c ho
  split at hs
  ·rename_i f hcc
   split at hs
   ·rename_i s hsf
    exact op_call h ho hcc hsg (hsg _ _ hsf) hs hc hy
   ·cases hs
  ·rename_i x _ hcc
   exact Ahs h ho hcc hsg hs hc hy
  ·rename_i hcc
   split at hs
   ·rename_i x t hargs htys
    split at hs
    ·rename_i his
     exact op_len h ho hcc hargs htys hT his hs hc hy
    ·cases hs
   ·cases hs
  ·rename_i hcc
   split at hs
   ·rename_i x yy hargs
    exact Zv (mx:=true) h ho hcc hargs hs hc
   ·cases hs
  ·rename_i hcc
   split at hs
   ·rename_i x yy hargs
    exact Zv (mx:=false) h ho hcc hargs hs hc
   ·cases hs
  ·rename_i hcc
   split at hs
   ·rename_i x yy t t' hargs htys
    split at hs
    ·rename_i his
     obtain ⟨rfl,his1,his2⟩:=his
     exact Af1 h ho hcc hargs htys hT his1 hs hc hy
    ·cases hs
   ·cases hs
  ·cases hs
 ·cases hs
end
end Go.Abs
