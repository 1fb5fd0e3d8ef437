/-
  The meta layer, part 25: what is read ahead of a function is what the machine does when it is called.
-/
import Derived.Test.YtbkefganebmlnaaGreatDoorN24
namespace Go.Abs
open Go.RowKit
set_option linter.unusedVariables false
set_option linter.unusedSimpArgs false
section
variable {C:Cx}
theorem Acx {Δ:Ctx} {Tb:Tab} (hT:TabOk C.M Tb) {s:Env Δ} {a:Act} {w:World} {P:Prot} {T:Nat -> List Nat} (h:Sim C (dyn Δ s) a w P T) :
  ∀ {ts:List Ty} {m:Md} {vs:List ResultVar} {f:Env Δ -> Ty.dens ts},rets Δ.get Tb ts m vs = some f -> (∀ v ∈ vs,retSlot v < gB) -> (vs.map retSlot).Nodup ->
   ∃ us T',(vs.mapM (resRun a)).run C.M w = .ok us w /\ us.length = vs.length /\ RepVs C.M ts w P m (f s) us T' /\ T'.Nodup /\ ∀ b ∈ T',∃ v ∈ vs,b ∈ T (retSlot v)
 | [],m,[],f,hf,_,_ => ⟨[],[],rfl,rfl,by simp [RepVs],List.nodup_nil,by simp⟩
 | [],m,v :: vs,f,hf,_,_ => by simp [rets] at hf
 | t :: ts,m,[],f,hf,_,_ => by simp [rets] at hf
 | t :: ts,m,v :: vs,f,hf,hv,hnd => by
  simp only [rets] at hf
  split at hf
  ·rename_i f1 f2 e1 e2
   cases hf
   obtain ⟨u,T1,r1,r2,r3⟩:=Ac8 hT e1 h (hv v (by simp))
   simp only [List.map_cons,List.nodup_cons] at hnd
   obtain ⟨us,T2,q1,q2,q3,q4,q5⟩:=Acx hT h e2 (fun v' hv' => hv v' (by simp [hv'])) hnd.2
   refine ⟨u :: us,T1 ++ T2,?_,by simp [q2],?_,?_,?_⟩
   ·simp only [List.mapM_cons,Sem.run_bind,r1,Result.andThen_ok,q1,Sem.run_pure]
   ·simp only [RepVs]
    exact ⟨u,us,T1,T2,rfl,rfl,r3,q3⟩
   ·refine List.nodup_append.2 ⟨(h.nodup _).sublist r2,q4,fun b hb c hc e => ?_⟩
    subst e
    obtain ⟨v',hv',hb'⟩:=q5 b hc
    exact h.apart _ _ (fun e' => hnd.1 (by rw [e']; exact List.mem_map_of_mem hv')) b (r2.subset hb) hb'
   ·intro b hb
    rcases List.mem_append.1 hb with hb | hb
    ·exact ⟨v,by simp,r2.subset hb⟩
    ·obtain ⟨v',hv',hb'⟩:=q5 b hb
     exact ⟨v',by simp [hv'],hb'⟩
  ·cases hf
theorem ioV_rep {Δ:Ctx} {im:Md} {s:Env Δ} {a:Act} {w:World} {P:Prot} {T:Nat -> List Nat} (h:Sim C (dyn Δ s) a w P T) {slot:Nat} (hs:slot < gB) :
  ∀ {ps:List Ty} {n:Nat} {f:Env Δ -> nthT ps n} {vs:List Value},ioV Δ.get im ps n slot = some f -> vs[n]? = some (Act.at a slot) -> ∃ Tq,List.Sublist Tq (T slot) /\ IoR C.M w P im ps (some n) (f s) vs Tq
 | [],n,f,vs,hf,hv => ⟨[],List.nil_sublist _,by simp only [IoR]⟩
 | t :: ts,0,f,vs,hf,hv => by
  cases vs with
  | nil => simp at hv
  | cons v vs =>
   simp only [List.getElem?_cons_zero,Option.some.injEq] at hv
   subst hv
   have hf':exactV (Δ.get slot) t im = some f:=hf
   have hr:=h.rep slot
   rw [Cx.at_n hs] at hr
   rw [V1 (Vq hf') s] at hr
   exact ⟨T slot,List.Sublist.refl _,hr⟩
 | t :: ts,n + 1,f,vs,hf,hv => by
  cases vs with
  | nil => simp at hv
  | cons v vs =>
   simp only [List.getElem?_cons_succ] at hv
   have hf':ioV Δ.get im ts n slot = some f:=hf
   obtain ⟨Tq,h1,h2⟩:=ioV_rep (ps:=ts) (n:=n) (f:=f) h hs hf' hv
   exact ⟨Tq,h1,h2⟩
theorem Ahz {Δ:Ctx} {Tb:Tab} (hT:TabOk C.M Tb) {s:Env Δ} {a:Act} {w:World} {P:Prot} {T:Nat -> List Nat} (h:Sim C (dyn Δ s) a w P T) {R:Ty} {m:Md} {fn:Func} {rv:List ResultVar} (hrv:fn.results.toList = rv)
  (hslots:∀ v ∈ rv,retSlot v < gB) (hnd:(rv.map retSlot).Nodup) {f1:Env Δ -> R.den} (hf1:retV Δ.get Tb R m rv = some f1) :
  ∃ v Tr,(results fn a.tmps).run C.M w = .ok v w /\ RepV C.M R w P m (f1 s) v Tr /\ Tr.Nodup /\ ∀ b ∈ Tr,∃ q ∈ rv,b ∈ T (retSlot q):=by
 have key:∀ us,(fn.results.toList.mapM (resRun a)).run C.M w = .ok us w -> (results fn a.tmps).run C.M w = .ok (if h:(List.toArray us).size = 1 then (List.toArray us)[0] else .tuple (List.toArray us)) w:=fun us hus => Abz hus
 rw [hrv] at key
 unfold retV at hf1
 split at hf1
 ·rename_i v
  split at hf1
  ·obtain ⟨u,T',r1,r2,r3⟩:=Ac8 hT hf1 h (hslots v (by simp))
   refine ⟨u,T',?_,r3,(h.nodup _).sublist r2,fun b hb => ⟨v,by simp,r2.subset hb⟩⟩
   have:=key [u] (by simp only [List.mapM_cons,List.mapM_nil,Sem.run_bind,r1,Result.andThen_ok,Sem.run_pure])
   exact this
  ·cases hf1
 ·cases R <;> simp only at hf1 <;> try (cases hf1; done)
  rename_i ts
  by_cases hlen:decide (rv.length ≠ 1) = true
  ·replace hf1:=(if_pos hlen).symm.trans hf1
   simp only [decide_eq_true_eq] at hlen
   obtain ⟨us,T',q1,q2,q3,q4,q5⟩:=Acx hT h hf1 hslots hnd
   refine ⟨.tuple (List.toArray us),T',?_,?_,q4,q5⟩
   ·rw [key us q1,dif_neg]
    simpa [q2] using hlen
   ·simp only [RepV]; exact ⟨us,rfl,q3⟩
  ·exact absurd ((if_neg hlen).symm.trans hf1) (by simp)
theorem Ahw {M:Program} {w:World} {P:Prot} {im:Md}:∀ (ps:List Ty) (y:ioT ps none) (vs:List Value),IoR M w P im ps none y vs []:=fun ps y vs => by cases ps <;> simp only [IoR]
theorem ioW_rep {Δ:Ctx} {im:Md} {s:Env Δ} {a:Act} {w:World} {P:Prot} {T:Nat -> List Nat} (h:Sim C (dyn Δ s) a w P T) {ps:List Ty} {io:Option Nat} {f:Env Δ -> ioT ps io} (hf:ioW Δ.get im ps io = some f)
  {vs:List Value} (hio:∀ k,io = some k -> k < gB /\ ∃ v,vs[k]? = some v /\ C.pv k = some v):∃ Tq,IoR C.M w P im ps io (f s) vs Tq /\ Tq.Nodup /\ ∀ b ∈ Tq,∃ k,io = some k /\ b ∈ T k:=by
 cases io with
 | none => exact ⟨[],Ahw _ _ _,List.nodup_nil,by simp⟩
 | some k =>
  obtain ⟨hk,v',hv',hpv⟩:=hio k rfl
  obtain ⟨Tq,q1,q2⟩:=ioV_rep h hk hf (by rw [hv',h.pin k v' hpv])
  exact ⟨Tq,q2,(h.nodup k).sublist q1,fun b hb => ⟨k,rfl,q1.subset hb⟩⟩
theorem X5 {F:FC} (hT:TabOk C.M F.Tb) (hn:C.n = F.n) {vs:List Value} (hio:∀ k,F.io = some k -> ∃ v,vs[k]? = some v /\ C.pv k = some v) {fn:Func} (hrv:fn.results.toList = F.rv)
  {Γ:Ctx} {f:Env Γ -> F.RT} (hf:retR F Γ = some f) {s:Env Γ} {a:Act} {w:World} (h:SimE C Γ s a w):RetE C fn F vs (f s) a w:=by
 unfold retR at hf
 by_cases hcond:retOk F = true
 ·replace hf:=(if_pos hcond).symm.trans hf
  unfold retOk at hcond
  simp only [Bool.and_eq_true,decide_eq_true_eq] at hcond
  obtain ⟨⟨hnd,hslots⟩,hiok⟩:=hcond
  have hslots:∀ v ∈ F.rv,retSlot v < gB:=fun v hv => isG_no.1 (by simpa using List.all_eq_true.1 hslots v hv)
  have hio2:∀ k,F.io = some k -> (F.rv.map retSlot).contains k = false /\ k < gB:=fun k hk => by
   rw [hk] at hiok
   simp only [Bool.and_eq_true,Bool.not_eq_true',decide_eq_true_eq] at hiok
   exact ⟨hiok.1,isG_no.1 hiok.2⟩
  split at hf
  ·rename_i ρ f1 f2 hρ hf1 hf2
   cases hf
   obtain ⟨P,T,h⟩:=h.weak hρ
   obtain ⟨v,Tr,r1,r2,r3,r4⟩:=Ahz hT h hrv hslots hnd hf1
   obtain ⟨Tq,q1,q2,q3⟩:=ioW_rep h hf2 fun k hk => ⟨(hio2 k hk).2,hio k hk⟩
   refine ⟨h.defers,v,P,Tr,Tq,r1,h.pext,r2,q1,List.nodup_append.2 ⟨r3,q2,fun b hb c hc e => ?_⟩,fun b hb => ?_⟩
   ·subst e
    obtain ⟨rv,hrv1,hrv2⟩:=r4 b hb
    obtain ⟨k,hk1,hk2⟩:=q3 b hc
    have hne:retSlot rv ≠ k:=fun e => by
     have:(F.rv.map retSlot).contains k = true:=List.contains_iff_mem.2 (e ▸ List.mem_map_of_mem hrv1)
     rw [(hio2 k hk1).1] at this
     cases this
    exact h.apart _ _ hne b hrv2 hk2
   ·rcases List.mem_append.1 hb with hb | hb
    ·obtain ⟨rv,_,hrv2⟩:=r4 b hb
     exact h.new _ b hrv2
    ·obtain ⟨k,_,hk2⟩:=q3 b hb
     exact h.new _ b hk2
  ·cases hf
 ·exact absurd ((if_neg hcond).symm.trans hf) (by simp)
theorem XPost.inBlock {Q:Exit -> Act -> World -> Prop} {id:Nat}:∀ {X:List (Nat × Ctx)},(∀ q ∈ X,q.1 ≠ id) -> ∀ {x:XT X},XPost C Q X x -> XPost C (Exit.inBlock id Q) X x
 | [],_,x,_ => Empty.elim x
 | q :: X,hX,Sum.inl e,h => by
  intro a w hs
  show (if q.1 = id then _ else _)
  rw [if_neg (hX q (by simp))]
  exact h a w hs
 | q :: X,hX,Sum.inr x,h => XPost.inBlock (X:=X) (fun q hq => hX q (by simp [hq])) (x:=x) h
theorem Xz (hm:C.M.follows .mixedOrders = true) (hgb:C.gb = none) {F:FC} (hT:TabOk C.M F.Tb) (hsg:∀ f s,F.Tb.sg f = some s -> SigR C.M C.w0 C.P0 f s) (hpin:∀ t,F.Tb.pin t = false -> C.pv t = none) (hn:C.n = F.n)
  {id:Nat} {ops:Array Oper} {dr:Bool} {K:List Nat} {Γ:Ctx} {r:CR Γ} (hc:cstR F ops dr K Γ = some r) {s:Env Γ} {e:Env r.Δ} (hf:r.f s = some e) {a:Act} {w:World} {Q:Exit -> Act -> World -> Prop} (h:SimE C Γ s a w)
  (hQ:∀ a' w',SimE C r.Δ e a' w' -> Q .normal a' w'):(Code.region id ops dr).wp C.M Q a w:=by
 obtain ⟨P,T,h⟩:=h
 have key:∀ (dr:Bool) {l:List Nat} {r:CR Γ},cexps dr F.Tb C.n ops K Γ l = some r -> ∀ {e:Env r.Δ},r.f s = some e -> (∀ a' w',SimE C r.Δ e a' w' -> Q .normal a' w') -> (Code.region id ops dr).wp C.M Q a w:=by
  intro dr l
  induction l with
  | nil => intro r hc; cases hc
  | cons gs l ih =>
   intro r hc e hf hQ
   simp only [cexps] at hc
   split at hc
   ·rename_i r' hr'
    cases hc
    exact Ad3 hm hgb hT hsg hpin hr' hf h fun a' w' P' T' h' => hQ a' w' ⟨P',T',h'⟩
   ·exact ih hc hf hQ
 cases dr with
 | true =>
  unfold cstR at hc
  simp only at hc
  rw [<- hn] at hc
  split at hc
  ·rename_i r' hr'
   cases hc
   exact P4 hm hT hsg hpin hr' hf h fun a' w' P' T' h' => hQ a' w' ⟨P',T',h'⟩
  ·exact key true hc hf hQ
 | false =>
  unfold cstR at hc
  simp only at hc
  rw [<- hn] at hc
  split at hc
  ·rename_i r' hr'
   cases hc
   exact Us hT hsg hpin hr' hf h fun a' w' P' T' h' => hQ a' w' ⟨P',T',h'⟩
  ·exact key false hc hf hQ
theorem Ae1 (hm:C.M.follows .mixedOrders = true) (hgb:C.gb = none) {F:FC} (hT:TabOk C.M F.Tb) (hsg:∀ f s,F.Tb.sg f = some s -> SigR C.M C.w0 C.P0 f s) (hpin:∀ t,F.Tb.pin t = false -> C.pv t = none) (hn:C.n = F.n)
  {id:Nat} {ops:Array Oper} {dr:Bool} {K:List Nat} {Γ:Ctx} {r:CR Γ} (hc:cstH F id ops dr K Γ = some r) {s:Env Γ} {e:Env r.Δ} (hf:r.f s = some e) {a:Act} {w:World} {Q:Exit -> Act -> World -> Prop} (h:SimE C Γ s a w)
  (hQ:∀ a' w',SimE C r.Δ e a' w' -> Q .normal a' w'):(Code.region id ops dr).wp C.M Q a w:=by
 unfold cstH at hc
 split at hc
 ·exact Xz hm hgb hT hsg hpin hn hc hf h hQ
 ·split at hc
  ·rename_i ρ hρ
   split at hc
   ·rename_i r' hr'
    cases hc
    obtain ⟨P,T,h⟩:=h
    obtain ⟨P1,T1,h1⟩:=h.weak (Kk s hρ)
    exact Xz hm hgb hT hsg hpin hn hr' (show r'.f (ρ s) = some e from hf) ⟨P1,T1,h1⟩ hQ
   ·cases hc
  ·cases hc
theorem Kv (hm:C.M.follows .mixedOrders = true) (hgb:C.gb = none) {F:FC} (hT:TabOk C.M F.Tb) (hsg:∀ f s,F.Tb.sg f = some s -> SigR C.M C.w0 C.P0 f s) (hpin:∀ t,F.Tb.pin t = false -> C.pv t = none) (hn:C.n = F.n)
  {vs:List Value} (hio:∀ k,F.io = some k -> ∃ v,vs[k]? = some v /\ C.pv k = some v) {fn:Func} (hrv:fn.results.toList = F.rv) :
  ∀ (c:Code) {K:List Nat} {E:List (Nat × List Nat)} {Γ:Ctx} {r:SR F.RT Γ},cst F c K E Γ = some r -> ∀ {s:Env Γ} {out:Out (Env r.Δ) (XT r.X) F.RT},r.f s = some out ->
   ∀ {a:Act} {w:World} {Q:Exit -> Act -> World -> Prop},SimE C Γ s a w -> OPost C fn F vs Q r.X r.Δ out -> c.wp C.M Q a w
 | .skip,K,E,Γ,r,hc,s,out,hf,a,w,Q,h,hQ => by
  cases hc; cases hf
  exact wp_skip (hQ a w h)
 | .label _,K,E,Γ,r,hc,s,out,hf,a,w,Q,h,hQ => by
  cases hc; cases hf
  exact wp_label (hQ a w h)
 | .region id ops draw,K,E,Γ,r,hc,s,out,hf,a,w,Q,h,hQ => by
  simp only [cst] at hc
  split at hc
  ·cases hc; cases hf
  split at hc
  ·rename_i r' hr'
   cases hc
   obtain ⟨e,hr,hf⟩:=bind_some hf
   cases hf
   exact Ae1 hm hgb hT hsg hpin hn hr' hr h fun a' w' h' => hQ a' w' h'
  ·cases hc
 | .seq x y,K,E,Γ,r,hc,s,out,hf,a,w,Q,h,hQ => by
  simp only [cst] at hc
  split at hc
  ·rename_i ra hra
   split at hc
   ·rename_i hdead
    cases hc
    obtain ⟨o,hr,hf⟩:=bind_some hf
    refine wp_seq (Kv hm hgb hT hsg hpin hn hio hrv x hra hr h ?_)
    cases o with
    | norm e => cases hf
    | exit z => cases hf; exact XPost.imp (Q:=Q) (Q':=Exit.then (Code.wp C.M y Q) Q) (fun _ _ _ q => q) _ hQ
    | ret z => cases hf; exact hQ
   ·split at hc
    ·rename_i rb hrb
     cases hc
     obtain ⟨o,hr,hf⟩:=bind_some hf
     refine wp_seq (Kv hm hgb hT hsg hpin hn hio hrv x hra hr h ?_)
     cases o with
     | norm e =>
      obtain ⟨o2,hr2,hf⟩:=bind_some hf
      cases hf
      refine fun a' w' h' => Kv hm hgb hT hsg hpin hn hio hrv y hrb hr2 h' ?_
      cases o2 with
      | norm e => exact hQ
      | exit z => exact XPost.right (X:=ra.X) (y:=z) hQ
      | ret z => exact hQ
     | exit z =>
      cases hf
      exact XPost.imp (Q:=Q) (Q':=Exit.then (Code.wp C.M y Q) Q) (fun _ _ _ q => q) _ (XPost.left (Y:=rb.X) (x:=z) hQ)
     | ret z => cases hf; exact hQ
    ·cases hc
  ·cases hc
 | .cond c x y,K,E,Γ,r,hc,s,out,hf,a,w,Q,h,hQ => by
  simp only [cst] at hc
  split at hc
  ·rename_i m p hx
   split at hc
   ·rename_i rx ry hrx hry
    split at hc
    ·rename_i hx' hy' hhx hhy
     cases hc
     have hcond:a.eval c = .bool (show Bool from p s):=by
      obtain ⟨P,T,h⟩:=h
      refine Va h (m:=m) (f:=fun _ => p s) ?_
      show opx (atF s Γ.get) c = _
      rw [opx_nat,hx]
      rfl
     refine wp_cond hcond ?_
     cases hb:(show Bool from p s) with
     | true =>
      replace hf:=(if_pos hb).symm.trans hf
      obtain ⟨o,ho,hf⟩:=bind_some hf
      refine Kv hm hgb hT hsg hpin hn hio hrv x hrx ho h ?_
      cases o with
      | norm e =>
       obtain ⟨z,hz,hf⟩:=bind_some hf
       cases hf
       exact fun a' w' h' => hQ a' w' (SR.to_sound hhx hz h')
      | exit z => cases hf; exact XPost.left (Y:=ry.X) (x:=z) hQ
      | ret z => cases hf; exact hQ
     | false =>
      replace hf:=(if_neg (by have hb':(p s:Bool) = false:=hb; exact fun e => Bool.noConfusion (hb'.symm.trans e))).symm.trans hf
      obtain ⟨o,ho,hf⟩:=bind_some hf
      refine Kv hm hgb hT hsg hpin hn hio hrv y hry ho h ?_
      cases o with
      | norm e =>
       obtain ⟨z,hz,hf⟩:=bind_some hf
       cases hf
       exact fun a' w' h' => hQ a' w' (SR.to_sound hhy hz h')
      | exit z => cases hf; exact XPost.right (X:=rx.X) (y:=z) hQ
      | ret z => cases hf; exact hQ
    ·cases hc
   ·cases hc
  ·cases hc
 | .block id body,K,E,Γ,r,hc,s,out,hf,a,w,Q,h,hQ => by
  simp only [cst] at hc
  split at hc
  ·rename_i rb hrb
   split at hc
   ·rename_i hnone
    cases hc
    refine wp_block (Kv hm hgb hT hsg hpin hn hio hrv body hrb hf h ?_)
    have hno:∀ q ∈ rb.X,q.1 ≠ id:=fun q hq e => by
     have hm:q ∈ rb.X.filter fun q => q.1 == id:=List.mem_filter.2 ⟨hq,by simpa using e⟩
     have hdead:rb.dead = true:=by
      cases hd:rb.dead with
      | true => rfl
      | false => rw [hd] at hnone; simp [joinAll] at hnone
     rw [hdead] at hnone
     simp only [if_true,List.nil_append] at hnone
     cases hl:(rb.X.filter fun q => q.1 == id) with
     | nil => rw [hl] at hm; simp at hm
     | cons _ _ => rw [hl] at hnone; simp [joinAll] at hnone
    cases out with
    | norm e => exact hQ
    | exit z => exact XPost.inBlock hno hQ
    | ret z => exact hQ
   ·rename_i Δ hΔ
    split at hc
    ·rename_i hh cc hto hcat
     cases hc
     obtain ⟨o,ho,hf⟩:=bind_some hf
     refine wp_block (Kv hm hgb hT hsg hpin hn hio hrv body hrb ho h ?_)
     cases o with
     | norm e =>
      replace hf:((hh e).bind fun z => some (Out.norm z)) = some out:=hf
      obtain ⟨z,hz,hf⟩:=bind_some hf
      cases hf
      exact fun a' w' h' => hQ a' w' (SR.to_sound hto hz h')
     | exit x =>
      refine XPost.catch hcat (x:=x) ?_
      replace hf:blkK hh cc.f some (Out.exit x) = some out:=hf
      unfold blkK at hf
      simp only at hf
      cases hx:cc.f x with
      | inl e => rw [hx] at hf; cases hf; exact hQ
      | inr y => rw [hx] at hf; cases hf; exact hQ
     | ret z => cases hf; exact hQ
    ·cases hc
  ·cases hc
 | .loop body,K,E,Γ,r,hc,s,out,hf,a,w,Q,h,hQ => by
  simp only [cst] at hc
  split at hc
  ·rename_i l hl
   cases hc
   have hfix:∀ (k:Nat) (Γ':Ctx) (l:Lp F.RT Γ),loopFix (cst F body (liveIn F.ret (.loop body) [] E) E) (liveIn F.ret (.loop body) [] E) Γ k Γ' = some l -> ∃ (r:SR F.RT l.Γ') (hh:Env r.Δ -> Option (Env l.Γ')),weakTo Γ.get l.Γ' = some l.ρ /\ cst F body (liveIn F.ret (.loop body) [] E) E l.Γ' = some r /\ r.to l.Γ' = some hh /\
     ∃ e:r.X = l.X,l.f = fun s => (r.f s).bind fun o => o.bind (fun e => (hh e).bind fun z => some (.norm z)) (fun x => e ▸ x):=by
    intro k
    induction k with
    | zero => intro Γ' l h; cases h
    | succ k ih =>
     intro Γ' l h
     simp only [loopFix] at h
     split at h
     ·rename_i ρ r hρ hr
      split at h
      ·rename_i hh hto
       cases h
       exact ⟨r,hh,hρ,hr,hto,rfl,rfl⟩
      ·exact ih _ _ h
     ·cases h
   obtain ⟨rb,hh,hρ,hrb,hto,hX,hF⟩:=hfix _ _ _ hl
   refine wp_loop_rounds big ?_
   have hf':loopN big l.f (l.ρ s) = some out:=hf
   replace h:=h.weak hρ
   generalize l.ρ s = s' at hf' h
   generalize big = N at hf'
   clear hf
   induction N generalizing s' a w with
   | zero => cases hf'
   | succ N ih =>
    rw [rounds_succ]
    simp only [loopN] at hf'
    obtain ⟨o,ho,hf'⟩:=bind_some hf'
    rw [hF] at ho
    obtain ⟨o2,ho2,ho⟩:=bind_some ho
    refine Kv hm hgb hT hsg hpin hn hio hrv body hrb ho2 h ?_
    cases o2 with
    | norm e =>
     obtain ⟨z,hz,ho⟩:=bind_some ho
     cases ho
     replace hf':loopN N l.f z = some out:=hf'
     exact fun a' w' h' => ih a' w' _ (SR.to_sound hto hz h') hf'
    | exit z =>
     cases ho
     cases hf'
     have key:∀ (X:List (Nat × Ctx)) (e:rb.X = X),XPost C Q X (e ▸ z) -> XPost C Q rb.X z:=fun X e => by subst e; exact id
     exact XPost.imp (Q:=Q) (Q':=Exit.then (Code.rounds C.M body Q N) Q) (fun _ _ _ q => q) _ (key l.X hX hQ)
    | ret z => cases ho; cases hf'; exact hQ
  ·cases hc
 | .exit id,K,E,Γ,r,hc,s,out,hf,a,w,Q,h,hQ => by
  cases hc; cases hf
  exact wp_exit (hQ a w h)
 | .ret,K,E,Γ,r,hc,s,out,hf,a,w,Q,h,hQ => by
  simp only [cst] at hc
  split at hc
  ·rename_i g hg
   cases hc; cases hf
   exact wp_ret (hQ a w (X5 hT hn hio hrv hg h))
  ·cases hc
 | .goto _,_,_,_,_,hc,_,_,_,_,_,_,_,_ => by cases hc
end
end Go.Abs
