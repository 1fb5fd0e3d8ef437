/-
  Plain laws: numbers in a row, lists that hold a number, sets, domains (several small texts in one). Condition: no list is longer than 2 to the 40.
-/
import Derived.Test.YteggmejnpcfalaaGreatl4LActM
import Derived.Test.YteggmejnpcfalaaGreatl4LSetM
namespace Go.Proofs.YteggmejnpcfalaaGreat
open Go.Abs
set_option linter.unusedVariables false
set_option linter.unusedSimpArgs false
def planB (p:D_Project) (x:D_Plan):Bool:=formB p x.1 && setB x.2.1 && subB x.2.1 (iotaI p.2.1.length)
theorem PlanOk_impl (p:D_Project) (x:D_Plan) (u:Unit) (hp:Sm_Project 1099511627776 p) (hx:x.2.1.length <= 1099511627776):impl_PlanOk (p,x,u) () = some (planB p x,()):=by
 unfold impl_PlanOk planB
 simp only [ScheduleForm_impl _ _ _ hp,some_bind']
 rcases tf (formB p x.1) with h | h
 ·simp [h]
 have hn:=(proj_actsP (proj_of_form h)).2
 have k:=fun u => rangeN_s p.2.1.length u (by omega)
 have k2:=fun u => SetSubset_impl x.2.1 (iotaI p.2.1.length) u hx (by rw [iotaI_length]; omega)
 simp only [h,if_true,SetOk_impl _ _ hx,some_bind',lenI_eq,rangeN_i,k,k2]
 rcases tf (setB x.2.1) with h2 | h2 <;> simp [h2]
def failP (p:D_Project) (s:D_Schedule) (k:Nat):Bool:=match spec_l10Fails (p,s,(1,(k:Int),0,0,()),()) () with | some b => b.1 | none => false
def linkQ (p:D_Project) (s:D_Schedule) (d:List Int) (a:Int) (k:Nat):Bool:=match p.2.2.1[k]? with
 | some l => notB ((eqZ l.1 a || eqZ l.2.1 a) && hasB d l.1 && hasB d l.2.1 && failP p s k)
 | none => true
def linksV (p:D_Project) (s:D_Schedule) (d:List Int) (a:Int):Bool:=(List.range p.2.2.1.length).all (linkQ p s d a)
theorem links_i (p:D_Project) (s:D_Schedule) (d:List Int) (a:Int) (hp:Sm_Project 1099511627776 p) (h:formB p s = true) (hd:d.length <= 1099511627776) (A:Type) :
  loopN (A:=A) big impl_Plan_holds_L0 (0,lenI p.2.2.1,p.2.2.1,a,(s,d,()),p,s,()) = some (if linksV p s d a = true then .exit (Sum.inl (false,lenI p.2.2.1,lenI p.2.2.1,p.2.2.1,a,(s,d,()),p,s,())) else .ret (false,())):=by
 obtain ⟨-,-,hk12⟩:=proj_sizesP (proj_of_form h)
 exact allIS (A:=A) (F:=impl_Plan_holds_L0) (fun i => ((i:Int),lenI p.2.2.1,p.2.2.1,a,(s,d,()),p,s,())) (0,lenI p.2.2.1,p.2.2.1,a,(s,d,()),p,s,()) p.2.2.1.length (linkQ p s d a) (Sum.inl (false,lenI p.2.2.1,lenI p.2.2.1,p.2.2.1,a,(s,d,()),p,s,())) (false,()) rfl (by omega)
  (fun i hi => by
   obtain ⟨b,e,e'⟩:=linkHolds_failsP p s i 0 0 hp h hi
   have hb:failP p s i = b:=by unfold failP; rw [e]
   have hlt:ltZ (i:Int) (lenI p.2.2.1) = true:=lt_yes hi
   have k1:=fun u => SetHas_impl d p.2.2.1[i].1 u hd
   have k2:=fun u => SetHas_impl d p.2.2.1[i].2.1 u hd
   unfold impl_Plan_holds_L0 linkQ
   rw [List.getElem?_eq_getElem hi]
   simp only [hlt,if_true,getI_lt hi,some_bind',k1,k2,hb,e',idxN hi (show p.2.2.1.length <= 1099511627776 by omega) (Nat.le_refl _)]
   rcases tf (eqZ p.2.2.1[i].1 a) with q1 | q1 <;> rcases tf (eqZ p.2.2.1[i].2.1 a) with q2 | q2 <;> rcases tf (hasB d p.2.2.1[i].1) with q3 | q3 <;> rcases tf (hasB d p.2.2.1[i].2.1) with q4 | q4 <;> cases b <;>
    simp [-Int.natCast_add,q1,q2,q3,q4,notB,idxN hi (show p.2.2.1.length <= 1099511627776 by omega) (Nat.le_refl _)])
  (by
   have hlt:ltZ (p.2.2.1.length:Int) (lenI p.2.2.1) = false:=lt_no _
   unfold impl_Plan_holds_L0; simp only [hlt,Bool.false_eq_true,if_false]; rfl)
/-- the activities of a plan -/
def actsIn (p:D_Project) (d:List Int):Prop:=∀ o ∈ d,∃ i:Nat,o = (i:Int) /\ i < p.2.1.length
def consD (p:D_Project) (s:D_Schedule) (d:List Int) (k:Int):Int:=d.foldl (fun n o => addZ .i64 n (consOfP p s k o)) 0
def stockQ (p:D_Project) (s:D_Schedule) (d:List Int) (k:Nat):Bool:=match p.2.2.2.2.1[k]? with
 | some most => notB (ltZ most (consD p s d (k:Int)))
 | none => true
def stocksV (p:D_Project) (s:D_Schedule) (d:List Int):Bool:=(List.range p.2.2.2.2.1.length).all (stockQ p s d)
theorem stock_i (p:D_Project) (s:D_Schedule) (d:List Int) (k:Nat) (m1 m2 m3:Int) (hp:Sm_Project 1099511627776 p) (h:formB p s = true) (hd:d.length <= 1099511627776) (ha:actsIn p d) (hk:k < p.2.2.2.2.1.length) (A:Type) (st:List Int) :
  loopN (A:=A) big impl_Plan_holds_L5 (0,lenI d,d,(k:Int),0,m1,m2,m3,st,(s,d,()),p,s,()) = some (.exit (Sum.inl (false,lenI d,lenI d,d,(k:Int),consD p s d (k:Int),m1,m2,m3,st,(s,d,()),p,s,()))):=
 (fold_list (A:=A) (F:=impl_Plan_holds_L5) (fun i (n:Int) => ((i:Int),lenI d,d,(k:Int),n,m1,m2,m3,st,(s,d,()),p,s,())) d (fun _ _ => True) (fun n o => addZ .i64 n (consOfP p s (k:Int) o)) (fun n => Sum.inl (false,lenI d,lenI d,d,(k:Int),n,m1,m2,m3,st,(s,d,()),p,s,())) hd
  (fun i n hi _ => by
   have hlt:ltZ (i:Int) (lenI d) = true:=lt_yes hi
   obtain ⟨j,ej,hj⟩:=ha _ (List.getElem_mem hi)
   obtain ⟨md,gm,gc⟩:=cons_atP hp h hj hk
   refine ⟨?_,trivial⟩
   unfold impl_Plan_holds_L5
   simp only [hlt,if_true,getI_lt hi,some_bind',ej,mode_impl,gm,gc,idxN hi hd (Nat.le_refl _)])
  (fun n _ => by
   have hlt:ltZ (d.length:Int) (lenI d) = false:=lt_no _
   unfold impl_Plan_holds_L5
   simp only [hlt,Bool.false_eq_true,if_false]
   rfl)
  (a:=0) (s:=(0,lenI d,d,(k:Int),0,m1,m2,m3,st,(s,d,()),p,s,())) rfl trivial).1
theorem stocks_i (p:D_Project) (s:D_Schedule) (d:List Int) (hp:Sm_Project 1099511627776 p) (h:formB p s = true) (hd:d.length <= 1099511627776) (ha:actsIn p d) (A:Type) :
  loopN (A:=A) big impl_Plan_holds_L6 (0,lenI p.2.2.2.2.1,p.2.2.2.2.1,(s,d,()),p,s,()) = some (if stocksV p s d = true then .exit (Sum.inl (false,lenI p.2.2.2.2.1,lenI p.2.2.2.2.1,p.2.2.2.2.1,(s,d,()),p,s,())) else .ret (false,())):=by
 obtain ⟨-,hk2,-⟩:=proj_sizesP (proj_of_form h)
 exact allIS (A:=A) (F:=impl_Plan_holds_L6) (fun i => ((i:Int),lenI p.2.2.2.2.1,p.2.2.2.2.1,(s,d,()),p,s,())) (0,lenI p.2.2.2.2.1,p.2.2.2.2.1,(s,d,()),p,s,()) p.2.2.2.2.1.length (stockQ p s d) (Sum.inl (false,lenI p.2.2.2.2.1,lenI p.2.2.2.2.1,p.2.2.2.2.1,(s,d,()),p,s,())) (false,()) rfl (by omega)
  (fun i hi => by
   have hlt:ltZ (i:Int) (lenI p.2.2.2.2.1) = true:=lt_yes hi
   have l1:=fun (A:Type) (m1 m2 m3:Int) (st:List Int) => stock_i p s d i m1 m2 m3 hp h hd ha hi A st
   unfold impl_Plan_holds_L6 stockQ
   rw [List.getElem?_eq_getElem hi]
   simp only [hlt,if_true,getI_lt hi,some_bind',l1]
   rcases tf (ltZ p.2.2.2.2.1[i] (consD p s d (i:Int))) with q | q <;> simp [-Int.natCast_add,q,notB,idxN hi (show p.2.2.2.2.1.length <= 1099511627776 by omega) (Nat.le_refl _)])
  (by
   have hlt:ltZ (p.2.2.2.2.1.length:Int) (lenI p.2.2.2.2.1) = false:=lt_no _
   unfold impl_Plan_holds_L6; simp only [hlt,Bool.false_eq_true,if_false]; rfl)
open Go.Abs
set_option linter.unusedVariables false
set_option linter.unusedSimpArgs false
def capVP (l:List D_Step) (t:Int):Int:=l.foldl (fun n s => if leZ s.1 t = true then s.2.1 else n) 0
theorem l03At_specP (l:List D_Step) (t:Int) (u:Unit) (hl:l.length <= 1099511627776):spec_l03At (l,t,u) () = some (capVP l t,()):=by
 have l0:=fun A:Type => (fold_list (A:=A) (F:=spec_l03At_L0) (fun i n => ((i:Int),(l.length:Int),l,t,n,())) l (fun _ _ => True) (fun n s => if leZ s.1 t = true then s.2.1 else n) (fun n => Sum.inl (false,(l.length:Int),(l.length:Int),l,t,n,())) hl
  (fun i n hi _ => by
   refine ⟨?_,trivial⟩
   unfold spec_l03At_L0
   simp only [lt_yes hi,if_true,getI_lt hi,some_bind']
   rcases tf (leZ l[i].1 t) with h1 | h1 <;> simp [-Int.natCast_add,h1,idxN hi hl (Nat.le_refl _)])
  (fun n _ => by
   unfold spec_l03At_L0
   simp only [lt_no,Bool.false_eq_true,if_false])
  (a:=0) (s:=(0,(l.length:Int),l,t,0,())) rfl trivial).1
 unfold spec_l03At capVP
 simp only [lenI_eq,l0,some_bind']
theorem capacityAt_impl_eqP:impl_capacityAt = spec_l03At:=rfl
/-- the capacity as the program's callers see it -/
def capAtV (l:List D_Step) (t:Int):Int:=if (stepsB l && inB t 0 60) = true then capVP l t else 0
theorem CapacityAt_i (l:List D_Step) (t:Int) (u:Unit) (hl:l.length <= 1099511627776):impl_CapacityAt (l,t,u) () = some (capAtV l t,()):=by
 unfold impl_CapacityAt capAtV
 rcases tf (stepsB l) with h | h <;> rcases tf (inB t 0 60) with h2 | h2 <;>
  simp [StepsOk_impl _ _ hl,isTime_eq,notB,h,h2,capacityAt_impl_eqP,l03At_specP _ _ _ hl]
theorem Ahead_spec_atP {p:D_Project} {s:D_Schedule} {j b c:Nat} {row:List Int} {n x e:Int} (u:Unit) (hj:j < p.2.2.2.1.length) (hb:b < p.2.1.length) (hc:c < p.2.1.length)
  (h1:getI p.2.2.2.1[j].2.1 p.2.1[b].2.1 = some row) (h2:getI row p.2.1[c].2.1 = some n) (he:∀ u,spec_l09End (p,s,(b:Int),u) () = some (e,())) (hx:getI s.1 (c:Int) = some x):spec_l10Ahead (p,s,(j:Int),(b:Int),(c:Int),u) () = some (leZ (addZ .i64 e n) x,()):=by
 unfold spec_l10Ahead
 simp only [he,some_bind',getI_lt hj,getI_lt hb,getI_lt hc,h1,h2,hx]
/-- a pair on a machine: the reference's word for the pair in one order, the program's for the other -/
theorem pair_atP {p:D_Project} {s:D_Schedule} (hp:Sm_Project 1099511627776 p) (h:formB p s = true) {j b c:Nat} (hj:j < p.2.2.2.1.length) (hpos:0 < p.2.2.2.1[j].2.1.length) (hb:b < p.2.1.length) (hc:c < p.2.1.length) :
  ∃ w,(∀ r0 u,spec_l10Pair (p,s,(r0,(j:Int),(b:Int),(c:Int),()),u) () = some (w,())) /\ ∀ u,impl_Project_pairHolds (p,s,(j:Int),(c:Int),(b:Int),u) () = some (notB w,()):=by
 have h0:=proj_of_form h
 obtain ⟨x,e,md,g1,ge,gm,-,-,-,-,-,gr,gu⟩:=run_atP hp h hb
 obtain ⟨x',e',md',g1',ge',gm',-,-,-,-,-,gr',gu'⟩:=run_atP hp h hc
 obtain ⟨row,n,s1,s2,-⟩:=setup_atP h0 hj hpos hb hc
 obtain ⟨row',n',s1',s2',-⟩:=setup_atP h0 hj hpos hc hb
 have A1:=fun u => Ahead_spec_atP (p:=p) (s:=s) u hj hb hc s1 s2 ge g1'
 have A2:=fun u => Ahead_spec_atP (p:=p) (s:=s) u hj hc hb s1' s2' ge' g1
 have S1:=fun u => SetupTime_impl_atP hp h0 u hj hpos hb hc s1 s2
 have S2:=fun u => SetupTime_impl_atP hp h0 u hj hpos hc hb s1' s2'
 refine ⟨(if eqZ (useOfP p s (j:Int) (b:Int)) 0 = true then false else if eqZ (useOfP p s (j:Int) (c:Int)) 0 = true then false else if leZ (addZ .i64 e n) x' = true then false else notB (leZ (addZ .i64 e' n') x)),fun r0 u => ?_,fun u => ?_⟩
 ·unfold spec_l10Pair
  simp only [some_bind',gm,gm',gu j hj,gu' j hj]
  rcases tf (eqZ (useOfP p s (j:Int) (b:Int)) 0) with h1 | h1 <;> rcases tf (eqZ (useOfP p s (j:Int) (c:Int)) 0) with h2 | h2 <;> rcases tf (leZ (addZ .i64 e n) x') with h3 | h3 <;> simp [notB,h1,h2,h3,gm',gu' j hj,A1,A2]
 ·unfold impl_Project_pairHolds
  simp only [some_bind',mode_impl,end_impl,gm,gm',gu j hj,gu' j hj]
  rcases tf (eqZ (useOfP p s (j:Int) (b:Int)) 0) with h1 | h1 <;> rcases tf (eqZ (useOfP p s (j:Int) (c:Int)) 0) with h2 | h2 <;> rcases tf (leZ (addZ .i64 e n) x') with h3 | h3 <;> rcases tf (leZ (addZ .i64 e' n') x) with h4 | h4 <;> simp [notB,h1,h2,h3,h4,gm,gu j hj,ge,ge',g1,g1',S1,S2]
/-- what those of a plan that run at a time use -/
def useD (p:D_Project) (s:D_Schedule) (d:List Int) (j t:Int):Int:=d.foldl (fun n o => if runBP p s t o = true then addZ .i64 n (useOfP p s j o) else n) 0
theorem useD_i (p:D_Project) (s:D_Schedule) (d:List Int) (j:Nat) (t m1 m2 a:Int) (rsc:D_Resource) (rs:List D_Resource) (hp:Sm_Project 1099511627776 p) (h:formB p s = true) (hd:d.length <= 1099511627776) (ha:actsIn p d) (hj:j < p.2.2.2.1.length) (A:Type) :
  loopN (A:=A) big impl_Plan_holds_L1 (0,lenI d,d,0,t,rsc,(j:Int),m1,m2,rs,a,(s,d,()),p,s,()) = some (.exit (Sum.inl (false,lenI d,lenI d,d,useD p s d (j:Int) t,t,rsc,(j:Int),m1,m2,rs,a,(s,d,()),p,s,()))):=
 (fold_list (A:=A) (F:=impl_Plan_holds_L1) (fun i (n:Int) => ((i:Int),lenI d,d,n,t,rsc,(j:Int),m1,m2,rs,a,(s,d,()),p,s,())) d (fun _ _ => True) (fun n o => if runBP p s t o = true then addZ .i64 n (useOfP p s (j:Int) o) else n) (fun n => Sum.inl (false,lenI d,lenI d,d,n,t,rsc,(j:Int),m1,m2,rs,a,(s,d,()),p,s,())) hd
  (fun i n hi _ => by
   have hlt:ltZ (i:Int) (lenI d) = true:=lt_yes hi
   obtain ⟨k,ek,hk⟩:=ha _ (List.getElem_mem hi)
   obtain ⟨x,e,md,g1,ge,gm,-,-,-,-,-,gr,gu⟩:=run_atP hp h hk
   refine ⟨?_,trivial⟩
   unfold impl_Plan_holds_L1
   simp only [hlt,if_true,getI_lt hi,some_bind',ek,g1,gr]
   rcases tf (leZ x t) with h1 | h1 <;> rcases tf (ltZ t e) with h2 | h2 <;> simp [-Int.natCast_add,h1,h2,end_impl,mode_impl,ge,gm,gu j hj,idxN hi hd (Nat.le_refl _)])
  (fun n _ => by
   have hlt:ltZ (d.length:Int) (lenI d) = false:=lt_no _
   unfold impl_Plan_holds_L1
   simp only [hlt,Bool.false_eq_true,if_false]
   rfl)
  (a:=0) (s:=(0,lenI d,d,0,t,rsc,(j:Int),m1,m2,rs,a,(s,d,()),p,s,())) rfl trivial).1
def timeQ (p:D_Project) (s:D_Schedule) (d:List Int) (j:Nat) (x:Int) (i:Nat):Bool:=match p.2.2.2.1[j]? with
 | some r => notB (ltZ (capAtV r.1 (x + (i:Int))) (useD p s d (j:Int) (x + (i:Int))))
 | none => true
theorem times_i (p:D_Project) (s:D_Schedule) (d:List Int) (j:Nat) (m1 m2 a x dur e:Int) (rs:List D_Resource) (hp:Sm_Project 1099511627776 p) (h:formB p s = true) (hd:d.length <= 1099511627776) (ha:actsIn p d) (hj:j < p.2.2.2.1.length)
  (hx0:0 <= x) (hx6:x <= 60) (hd1:1 <= dur) (hd2:dur <= 12) (hee:e = addZ .i64 x dur) (he:∀ u,spec_l09End (p,s,a,u) () = some (e,())) (A:Type) :
  loopN (A:=A) big impl_Plan_holds_L2 (x,p.2.2.2.1[j],(j:Int),m1,m2,rs,a,(s,d,()),p,s,()) = some (if (List.range dur.toNat).all (timeQ p s d j x) = true then .exit (Sum.inl (false,e,p.2.2.2.1[j],(j:Int),m1,m2,rs,a,(s,d,()),p,s,())) else .ret (false,())):=by
 have hst:p.2.2.2.1[j].1.length <= 1099511627776:=(hp.2.2.2.1.2 _ (List.getElem_mem hj)).1.1
 have e2:e = x + (dur.toNat:Int):=by rw [hee,addZ64 (by omega) (by omega)]; omega
 exact allIS (A:=A) (F:=impl_Plan_holds_L2) (fun i => (x + (i:Int),p.2.2.2.1[j],(j:Int),m1,m2,rs,a,(s,d,()),p,s,())) _ dur.toNat (timeQ p s d j x) _ (false,()) (by simp) (by omega)
  (fun i hi => by
   have hlt:ltZ (x + (i:Int)) e = true:=by rw [ltZ_iff]; omega
   have hadd:addZ .i64 (x + (i:Int)) 1 = x + ((i + 1:Nat):Int):=by rw [addZ64 (by omega) (by omega)]; omega
   have l0:=fun (A:Type) => useD_i p s d j (x + (i:Int)) m1 m2 a p.2.2.2.1[j] rs hp h hd ha hj A
   unfold impl_Plan_holds_L2 timeQ
   rw [List.getElem?_eq_getElem hj]
   simp only [end_impl,he,hlt,if_true,some_bind',l0,CapacityAt_i _ _ _ hst]
   rcases tf (ltZ (capAtV p.2.2.2.1[j].1 (x + (i:Int))) (useD p s d (j:Int) (x + (i:Int)))) with q | q <;> simp [-Int.natCast_add,q,notB,hadd])
  (by
   have hlt:ltZ e e = false:=by rw [Bool.eq_false_iff,Ne,ltZ_iff]; omega
   unfold impl_Plan_holds_L2
   simp only [end_impl,he,some_bind',<- e2,hlt,Bool.false_eq_true,if_false]
   try rfl)
def pairW (p:D_Project) (s:D_Schedule) (j o a:Int):Bool:=match spec_l10Pair (p,s,(0,j,o,a,()),()) () with | some b => b.1 | none => false
def pairQ (p:D_Project) (s:D_Schedule) (j a o:Int):Bool:=notB (notB (eqZ o a) && machBP p j && pairW p s j o a)
theorem pairs_i (p:D_Project) (s:D_Schedule) (d:List Int) (j a:Nat) (m1 m2:Int) (rs:List D_Resource) (hp:Sm_Project 1099511627776 p) (h:formB p s = true) (hd:d.length <= 1099511627776) (ha:actsIn p d) (hj:j < p.2.2.2.1.length) (haa:a < p.2.1.length) (A:Type) :
  loopN (A:=A) big impl_Plan_holds_L3 (0,lenI d,d,(j:Int),m1,m2,rs,(a:Int),(s,d,()),p,s,()) = some (if d.all (pairQ p s (j:Int) (a:Int)) = true then .exit (Sum.inl (false,lenI d,lenI d,d,(j:Int),m1,m2,rs,(a:Int),(s,d,()),p,s,())) else .ret (false,())):=
 allS (A:=A) (F:=impl_Plan_holds_L3) (fun i => ((i:Int),lenI d,d,(j:Int),m1,m2,rs,(a:Int),(s,d,()),p,s,())) _ d (pairQ p s (j:Int) (a:Int)) _ (false,()) rfl hd
  (fun i hi => by
   have hlt:ltZ (i:Int) (lenI d) = true:=lt_yes hi
   obtain ⟨k,ek,hk⟩:=ha _ (List.getElem_mem hi)
   unfold impl_Plan_holds_L3 pairQ
   simp only [hlt,if_true,getI_lt hi,some_bind',ek,IsMachine_impl_eqP,IsMachine_specP _ _ _ hp]
   rcases tf (eqZ (k:Int) (a:Int)) with q1 | q1 <;> rcases tf (machBP p (j:Int)) with q2 | q2
   ·simp [-Int.natCast_add,q1,q2,notB,idxN hi hd (Nat.le_refl _)]
   ·have q3:=q2
    rw [machB_atP hp hj,ltZ_iff,lenI_eq] at q3
    obtain ⟨w,w1,w2⟩:=pair_atP (b:=k) (c:=a) hp h hj (by omega) hk haa
    have hw:pairW p s (j:Int) (k:Int) (a:Int) = w:=by unfold pairW; rw [w1]
    cases w <;> simp [-Int.natCast_add,q1,q2,notB,hw,w2,idxN hi hd (Nat.le_refl _)]
   ·simp [-Int.natCast_add,q1,q2,notB,idxN hi hd (Nat.le_refl _)]
   ·simp [-Int.natCast_add,q1,q2,notB,idxN hi hd (Nat.le_refl _)])
  (by
   have hlt:ltZ (d.length:Int) (lenI d) = false:=lt_no _
   unfold impl_Plan_holds_L3
   simp only [hlt,Bool.false_eq_true,if_false]
   try rfl)
open Go.Abs
set_option linter.unusedVariables false
set_option linter.unusedSimpArgs false
def roomQ (p:D_Project) (s:D_Schedule) (d:List Int) (a:Nat) (x:Int) (n:Nat) (j:Nat):Bool:=(List.range n).all (timeQ p s d j x) && d.all (pairQ p s (j:Int) (a:Int))
def roomV (p:D_Project) (s:D_Schedule) (d:List Int) (a:Nat):Bool:=match getI s.1 (a:Int),spec_l09Mode (p,s,(a:Int),()) () with
 | some x,some m => (List.range p.2.2.2.1.length).all (roomQ p s d a x m.1.1.toNat)
 | _,_ => false
theorem room_i (p:D_Project) (s:D_Schedule) (d:List Int) (a:Nat) (hp:Sm_Project 1099511627776 p) (h:formB p s = true) (hd:d.length <= 1099511627776) (ha:actsIn p d) (haa:a < p.2.1.length) (A:Type) :
  loopN (A:=A) big impl_Plan_holds_L4 (0,lenI p.2.2.2.1,p.2.2.2.1,(a:Int),(s,d,()),p,s,()) = some (if roomV p s d a = true then .exit (Sum.inl (false,lenI p.2.2.2.1,lenI p.2.2.2.1,p.2.2.2.1,(a:Int),(s,d,()),p,s,())) else .ret (false,())):=by
 obtain ⟨hr3,-,-⟩:=proj_sizesP (proj_of_form h)
 obtain ⟨x,e,md,g1,ge,gm,hee,hx0,hx6,hd1,hd2,-,-⟩:=run_atP hp h haa
 have hV:roomV p s d a = (List.range p.2.2.2.1.length).all (roomQ p s d a x md.1.toNat):=by unfold roomV; simp only [g1,gm]
 rw [hV]
 exact allIS (A:=A) (F:=impl_Plan_holds_L4) (fun i => ((i:Int),lenI p.2.2.2.1,p.2.2.2.1,(a:Int),(s,d,()),p,s,())) (0,lenI p.2.2.2.1,p.2.2.2.1,(a:Int),(s,d,()),p,s,()) p.2.2.2.1.length (roomQ p s d a x md.1.toNat) (Sum.inl (false,lenI p.2.2.2.1,lenI p.2.2.2.1,p.2.2.2.1,(a:Int),(s,d,()),p,s,())) (false,()) rfl (by omega)
  (fun i hi => by
   have hlt:ltZ (i:Int) (lenI p.2.2.2.1) = true:=lt_yes hi
   have l1:=fun (A:Type) (m1 m2:Int) (rs:List D_Resource) => times_i p s d i m1 m2 (a:Int) x md.1 e rs hp h hd ha hi hx0 hx6 hd1 hd2 hee ge A
   have l2:=fun (A:Type) (m1 m2:Int) (rs:List D_Resource) => pairs_i p s d i a m1 m2 rs hp h hd ha hi haa A
   unfold impl_Plan_holds_L4 roomQ
   simp only [hlt,if_true,some_bind',g1,getI_lt hi,l1]
   rcases tf ((List.range md.1.toNat).all (timeQ p s d i x)) with q1 | q1
   ·simp [-Int.natCast_add,-List.all_eq_true,-List.all_eq_false,q1]
   ·rcases tf (d.all (pairQ p s (i:Int) (a:Int))) with q2 | q2 <;>
     simp [-Int.natCast_add,-List.all_eq_true,-List.all_eq_false,q1,q2,l2,idxN hi (show p.2.2.2.1.length <= 1099511627776 by omega) (Nat.le_refl _)])
  (by
   have hlt:ltZ (p.2.2.2.1.length:Int) (lenI p.2.2.2.1) = false:=lt_no _
   unfold impl_Plan_holds_L4; simp only [hlt,Bool.false_eq_true,if_false]; rfl)
/-- what holds of a plan after an activity was put into it -/
def holdsV (p:D_Project) (s:D_Schedule) (d:List Int) (a:Nat):Bool:=linksV p s d (a:Int) && roomV p s d a && stocksV p s d
theorem holds_i (p:D_Project) (s:D_Schedule) (d:List Int) (a:Nat) (u:Unit) (hp:Sm_Project 1099511627776 p) (h:formB p s = true) (hd:d.length <= 1099511627776) (ha:actsIn p d) (haa:a < p.2.1.length):impl_Plan_holds ((s,d,()),p,(a:Int),u) () = some (holdsV p s d a,()):=by
 have l0:=fun A:Type => links_i p s d (a:Int) hp h hd A
 have l1:=fun A:Type => room_i p s d a hp h hd ha haa A
 have l2:=fun A:Type => stocks_i p s d hp h hd ha A
 unfold impl_Plan_holds holdsV
 simp only [l0]
 rcases tf (linksV p s d (a:Int)) with q1 | q1
 ·simp [q1]
 ·rcases tf (roomV p s d a) with q2 | q2
  ·simp [q1,q2,l1]
  ·rcases tf (stocksV p s d) with q3 | q3 <;> simp [q1,q2,q3,l1,l2]
open Go.Abs
set_option linter.unusedVariables false
set_option linter.unusedSimpArgs false
theorem setB_asc {l:List Int} (h:setB l = true):Asc l:=by
 have adj:∀ j (hj:j + 1 < l.length),l[j] < l[j + 1]:=fun j hj => by
  unfold setB at h
  have:=List.all_eq_true.1 h (j + 1) (by simpa using hj)
  rw [show ordI l (j + 1) = (match l[j]?,l[j + 1]? with | some x,some y => notB (leZ y x) | _,_ => true) from rfl] at this
  rw [List.getElem?_eq_getElem (show j < l.length by omega),List.getElem?_eq_getElem hj] at this
  simp only [notB_not,Bool.not_eq_true',Bool.eq_false_iff,Ne,leZ_iff] at this
  omega
 refine List.pairwise_iff_getElem.2 fun i j hi hj hij => ?_
 induction j with
 | zero => omega
 | succ k ih =>
  by_cases e:i = k
  ·subst e; exact adj i hj
  ·exact Int.lt_trans (ih (by omega) (by omega)) (adj k hj)
theorem asc_len:∀ (l:List Int) (lo:Int) (n:Nat),Asc l -> (∀ x ∈ l,lo <= x /\ x < lo + n) -> l.length <= n
 | [],_,_,_,_ => by simp
 | x :: r,lo,n,h,hb => by
  have h1:=List.pairwise_cons.1 h
  have hx:=hb x List.mem_cons_self
  have:=asc_len r (lo + 1) (n - 1) h1.2 (fun y hy => by
   have a:=h1.1 y hy
   have b:=hb y (List.mem_cons_of_mem _ hy)
   omega)
  simp only [List.length_cons]
  omega
theorem plan_at {p:D_Project} {x:D_Plan} (h:planB p x = true):formB p x.1 = true /\ Asc x.2.1 /\ actsIn p x.2.1 /\ x.2.1.length <= 6:=by
 unfold planB at h
 simp only [Bool.and_eq_true] at h
 have hn:=(proj_actsP (proj_of_form h.1.1)).2
 have ha:actsIn p x.2.1:=fun o ho => by
  have h2:=h.2
  unfold subB at h2
  have h3:=List.all_eq_true.1 h2 o ho
  unfold hasB at h3
  obtain ⟨y,hy,e⟩:=List.any_eq_true.1 h3
  rw [eqZ_dec,decide_eq_true_eq] at e
  subst e
  unfold iotaI at hy
  obtain ⟨i,hi,e⟩:=List.mem_map.1 hy
  exact ⟨i,e.symm,List.mem_range.1 hi⟩
 refine ⟨h.1.1,setB_asc h.1.2,ha,?_⟩
 have:=asc_len x.2.1 0 p.2.1.length (setB_asc h.1.2) (fun y hy => by
  obtain ⟨i,e,hi⟩:=ha y hy
  omega)
 omega
theorem hasB_not {l:List Int} {n:Int} (h:hasB l n = false):n ∉ l:=fun hm => by
 unfold hasB at h
 have:=List.any_eq_false.1 h n hm
 rw [eqZ_dec] at this
 simp at this
theorem form_len {p:D_Project} {s:D_Schedule} (h:formB p s = true):s.1.length = p.2.1.length /\ s.2.1.length = p.2.1.length:=by
 unfold formB at h
 simp only [Bool.and_eq_true] at h
 exact ⟨len_of_eqZ h.1.1.2,len_of_eqZ h.1.2⟩
def putS (s:D_Schedule) (a m t:Int):D_Schedule:=(setI s.1 a (fun _ => t),setI s.2.1 a (fun _ => m),())
theorem form_put {p:D_Project} {s:D_Schedule} {a:Nat} {m t:Int} (h:formB p s = true) (haa:a < p.2.1.length) (ht:inB t 0 60 = true) (hm:inB m 0 (subZ .i64 (lenI p.2.1[a].2.2.1) 1) = true):formB p (putS s (a:Int) m t) = true:=by
 obtain ⟨n1,n2⟩:=form_len h
 unfold formB at h ⊢
 simp only [Bool.and_eq_true] at h ⊢
 unfold putS
 refine ⟨⟨⟨h.1.1.1,?_⟩,?_⟩,?_⟩
 ·simp only [lenI_eq,setI_length,n1,eqZ_self]
 ·simp only [lenI_eq,setI_length,n2,eqZ_self]
 ·refine List.all_eq_true.2 fun i hi => ?_
  have h4:=List.all_eq_true.1 h.2 i hi
  have hi':i < p.2.1.length:=List.mem_range.1 hi
  unfold formI at h4 ⊢
  rw [List.getElem?_eq_getElem hi',List.getElem?_eq_getElem (show i < s.1.length by omega),List.getElem?_eq_getElem (show i < s.2.1.length by omega)] at h4
  simp only [setI_nat,List.getElem?_modify]
  by_cases e:a = i
  ·subst e
   simp only [if_true,List.getElem?_eq_getElem hi',List.getElem?_eq_getElem (show a < s.1.length by omega),List.getElem?_eq_getElem (show a < s.2.1.length by omega),Option.map_eq_map,Option.map_some,ht,hm,Bool.and_self]
  ·simp only [if_neg e,List.getElem?_eq_getElem hi',List.getElem?_eq_getElem (show i < s.1.length by omega),List.getElem?_eq_getElem (show i < s.2.1.length by omega),Option.map_eq_map,Option.map_some,id,h4]
theorem cloneP (x:List Int) (u:Unit) (h:x.length <= 1048576):slices_Clone_int_int (x,u) () = some (x,()):=by
 unfold slices_Clone_int_int
 simp only [addNilR x h,some_bind']
def fitsV (p:D_Project) (s:D_Schedule) (d:List Int) (a:Nat) (m t:Int):Bool:=match spec_l09End (p,putS s (a:Int) m t,(a:Int),()) () with
 | some e => leZ e.1 p.1 && holdsV p (putS s (a:Int) m t) (insV (a:Int) d) a
 | none => false
theorem acts_ins {p:D_Project} {d:List Int} {a:Nat} (ha:actsIn p d) (haa:a < p.2.1.length):actsIn p (insV (a:Int) d):=fun o ho => by
 rcases insV_mem.1 ho with e | e
 ·exact ⟨a,e,haa⟩
 ·exact ha o e
def okV24 (p:D_Project) (x:D_Plan) (a m:Int):Bool:=if planB p x = true then if inB a 0 (subZ .i64 (lenI p.2.1) 1) = true then if hasB x.2.1 a = true then false else (match getI p.2.1 a with | some ac => inB m 0 (subZ .i64 (lenI ac.2.2.1) 1) | none => false) else false else false
theorem PlanFits_no (p:D_Project) (x:D_Plan) (a m t:Int) (u:Unit) (hp:Sm_Project 1099511627776 p) (hx:x.2.1.length <= 1099511627776) (ho:okV24 p x a m = false):impl_PlanFits (p,x,a,m,t,u) () = some (false,()):=by
 unfold okV24 at ho
 rcases tf (planB p x) with hP | hP
 ·unfold impl_PlanFits
  simp [PlanOk_impl _ _ _ hp hx,hP,notB]
 rcases tf (inB a 0 (subZ .i64 (lenI p.2.1) 1)) with hI | hI
 ·unfold impl_PlanFits
  simp [PlanOk_impl _ _ _ hp hx,hP,notB,hasActivity_eq,hI]
 rcases tf (hasB x.2.1 a) with hH | hH
 ·obtain ⟨a,rfl,haa⟩:=inB_place hp.2.1.1 hI
  simp only [hP,hI,hH,if_true,Bool.false_eq_true,if_false,getI_lt haa] at ho
  unfold impl_PlanFits
  simp [PlanOk_impl _ _ _ hp hx,hP,notB,hasActivity_eq,hI,SetHas_impl _ _ _ hx,hH,getI_lt haa,within_eq,ho]
 ·unfold impl_PlanFits
  simp [PlanOk_impl _ _ _ hp hx,hP,notB,hasActivity_eq,hI,SetHas_impl _ _ _ hx,hH]
theorem PlanFits_yes (p:D_Project) (s:D_Schedule) (d:List Int) (a:Nat) (m t:Int) (u:Unit) (hp:Sm_Project 1099511627776 p) (hx:d.length <= 1099511627776) (hP:planB p (s,d,()) = true) (haa:a < p.2.1.length) (hH:hasB d (a:Int) = false) (hM:inB m 0 (subZ .i64 (lenI p.2.1[a].2.2.1) 1) = true) :
  impl_PlanFits (p,(s,d,()),(a:Int),m,t,u) () = some (inB t 0 60 && fitsV p s d a m t,()):=by
 have hI:inB (a:Int) 0 (subZ .i64 (lenI p.2.1) 1) = true:=inB_atP hp.2.1.1 haa
 rcases tf (inB t 0 60) with hT | hT
 ·unfold impl_PlanFits
  simp [PlanOk_impl p (s,d,()) _ hp hx,hP,notB,hasActivity_eq,hI,SetHas_impl _ _ _ hx,hH,getI_lt haa,within_eq,hM,isTime_eq,hT]
 obtain ⟨h,hA,ha,hd⟩:=plan_at hP
 have hn:=hasB_not hH
 replace h:formB p s = true:=h
 have hf:=form_put h haa hT hM
 have hn6:=(proj_actsP (proj_of_form h)).2
 obtain ⟨n1,n2⟩:=form_len h
 have hd':d.length <= 6:=hd
 have hn':(a:Int) ∉ d:=hn
 have hA':Asc d:=hA
 have hl:(insV (a:Int) d).length <= 1099511627776:=by rw [insV_length]; omega
 obtain ⟨mm,em,hmm⟩:=inB_place (hp.2.1.2 _ (List.getElem_mem haa)).2.2.1.1 hM
 have k1:getI (putS s (a:Int) m t).1 (a:Int) = some t:=getI_setI_eq (getI_lt (show a < s.1.length from n1 ▸ haa))
 have k2:getI (putS s (a:Int) m t).2.1 (a:Int) = some (mm:Int):=by
  rw [<- em]; exact getI_setI_eq (getI_lt (show a < s.2.1.length from n2 ▸ haa))
 have ge:=end_eq (p:=p) (s:=putS s (a:Int) m t) () haa k1 k2 (getI_lt hmm)
 have l1:=fun u => holds_i p (putS s (a:Int) m t) (insV (a:Int) d) a u hp hf hl (acts_ins ha haa) haa
 have k3:getI p.2.1[a].2.2.1 m = some p.2.1[a].2.2.1[mm]:=by rw [em]; exact getI_lt hmm
 unfold putS at l1
 unfold impl_PlanFits impl_Plan_with impl_Plan_copied fitsV
 rw [ge]
 unfold putS
 simp only [PlanOk_impl p (s,d,()) _ hp hx,hP,notB_true,hasActivity_eq,hI,SetHas_impl _ _ _ hx,hH,getI_lt haa,within_eq,hM,isTime_eq,hT,Bool.true_and,some_bind',Bool.false_eq_true,if_false,k3,
  cloneP s.1 _ (show s.1.length <= 1048576 by omega),cloneP s.2.1 _ (show s.2.1.length <= 1048576 by omega),cloneP d _ (show d.length <= 1048576 by omega),SetAdd_i d (a:Int) _ (show d.length <= 11 by omega) hA' hn',
  getI_lt (show a < s.1.length by omega),getI_lt (show a < s.2.1.length by omega),l1]
 have q:ltZ p.1 (addZ .i64 t p.2.1[a].2.2.1[mm].1) = notB (leZ (addZ .i64 t p.2.1[a].2.2.1[mm].1) p.1):=by
  rw [<- notB_ltZP]; cases ltZ p.1 (addZ .i64 t p.2.1[a].2.2.1[mm].1) <;> rfl
 rw [q]
 rcases tf (leZ (addZ .i64 t p.2.1[a].2.2.1[mm].1) p.1) with q0 | q0 <;> simp [q0,notB]
end Go.Proofs.YteggmejnpcfalaaGreat
