/-
  Plain laws: numbers in a row, lists that hold a number, sets, domains (several small texts in one). Condition: no list is longer than 2 to the 40.
-/
import Derived.Test.YteggmejnpcfalaaGreatl4LForm
import Derived.Test.YteggmejnpcfalaaGreatN35
namespace Go.Proofs.YteggmejnpcfalaaGreat
open Go.Abs
set_option linter.unusedVariables false
set_option linter.unusedSimpArgs false
theorem kept_eq (l:List Int) (f:(Int × Unit) -> Option Bool) (q:Int -> Bool) (u:Unit) (hl:l.length <= 1048576) (hf:∀ a ∈ l,f (a,()) = some (q a)):impl_kept (l,f,u) () = some (l.filter q,()):=by
 unfold impl_kept
 simp only [lenI_eq]
 have l0:=fun A:Type => (fold_list (A:=A) (B:=(Bool × Int × Int × List Int × ((Int × Unit) -> Option Bool) × List Int × Unit) ⊕ Empty) (C:=List Int × Unit) (F:=impl_kept_L0) (fun i out => ((i:Int),(l.length:Int),l,f,out,())) l (fun i out => out.length <= i) (fun out x => if q x = true then out ++ [x] else out) (fun out => Sum.inl (false,(l.length:Int),(l.length:Int),l,f,out,())) (by omega)
  (fun i out hi ho => by
   have ha:addI out [l[i]] = some (out ++ [l[i]]):=addI_ok (by rw [room_eq]; simp; omega)
   constructor
   ·unfold impl_kept_L0
    simp only [lt_yes hi,if_true,getI_lt hi,some_bind',hf _ (List.getElem_mem hi)]
    rcases tf (q l[i]) with h | h <;> simp [-Int.natCast_add,h,ha,idxN hi (show l.length <= 1099511627776 by omega) (Nat.le_refl _)]
   ·rcases tf (q l[i]) with h | h <;> simp [h] <;> omega)
  (fun out ho => by
   unfold impl_kept_L0
   simp only [lt_no,Bool.false_eq_true,if_false])
  (a:=[]) (s:=(0,(l.length:Int),l,f,[],())) rfl (Nat.le_refl _)).1
 simp only [l0,some_bind',foldl_filter,List.nil_append]
theorem IntRange_impl (n:Nat) (u:Unit) (hn:n <= 200):impl_IntRange ((n:Int),u) () = some (iotaI n,()):=by
 unfold impl_IntRange
 have hw:inB (n:Int) 0 200 = true:=inB_iff.2 ⟨by omega,by omega⟩
 simp only [within_eq,some_bind',hw,notB_true,Bool.false_eq_true,if_false]
 have l0:=fun A:Type => (fold_loop (A:=A) (B:=(Bool × Int × Int × List Int × Unit) ⊕ Empty) (C:=List Int × Unit) (F:=impl_IntRange_L0) (fun i out => ((i:Int),(n:Int),out,())) n (fun i out => out.length = i) (fun i out => out ++ [(i:Int)]) (fun out => Sum.inl (false,(n:Int),(n:Int),out,())) (by omega)
  (fun i out hi ho => by
   have ha:addI out [(i:Int)] = some (out ++ [(i:Int)]):=addI_ok (by rw [room_eq]; simp; omega)
   constructor
   ·unfold impl_IntRange_L0
    simp only [lt_yes hi,if_true,ha,some_bind',idxN hi (show n <= 1099511627776 by omega) (Nat.le_refl _)]
   ·simp [ho])
  (fun out ho => by
   unfold impl_IntRange_L0
   simp only [lt_no,Bool.false_eq_true,if_false])
  (a:=[]) rfl).1
 have e0:(((0:Nat):Int),(n:Int),([]:List Int),()) = ((0:Int),(n:Int),([]:List Int),()):=rfl
 rw [e0] at l0
 have e1:=foldN_iota (fun (out:List Int) (x:Int) => out ++ [x]) n []
 simp only [l0,some_bind',e1,foldl_append,List.nil_append]
/-- Does an activity run at a time? -/
def runB (p:D_Project) (s:D_Schedule) (t a:Int):Bool:=match getI s.1 a,spec_l09End (p,s,a,()) () with
 | some x,some e => leZ x t && ltZ t e.1
 | _,_ => false
def runL (p:D_Project) (s:D_Schedule) (t:Int):List Int:=(iotaI p.2.1.length).filter (runB p s t)
/-- what an activity uses -/
def useOf (p:D_Project) (s:D_Schedule) (res a:Int):Int:=match spec_l09Mode (p,s,a,()) () with
 | some m => (getI m.1.2.1 res).getD 0
 | none => 0
def useV (p:D_Project) (s:D_Schedule) (res t:Int):Int:=(runL p s t).foldl (fun n a => addZ .i64 n (useOf p s res a)) 0
theorem proj_acts {p:D_Project} (h:projB p = true):1 <= p.2.1.length /\ p.2.1.length <= 6:=by
 unfold projB at h
 simp only [Bool.and_eq_true] at h
 have:=inB_iff.1 h.1.1.1.1.1.1.1.2
 rw [lenI_eq] at this
 omega
theorem mode_eq {p:D_Project} {s:D_Schedule} {i m:Nat} {md:D_Mode} (u:Unit) (hi:i < p.2.1.length) (h2:getI s.2.1 (i:Int) = some (m:Int)) (h3:getI p.2.1[i].2.2.1 (m:Int) = some md) :
  spec_l09Mode (p,s,(i:Int),u) () = some (md,()):=by
 unfold spec_l09Mode
 simp only [getI_lt hi,h2,h3,some_bind']
/-- what is known of an activity in a schedule of the right form -/
theorem run_at {p:D_Project} {s:D_Schedule} (hp:Sm_Project 1099511627776 p) (h:formB p s = true) {i:Nat} (hi:i < p.2.1.length) :
  ∃ (x e:Int) (md:D_Mode),getI s.1 (i:Int) = some x /\ (∀ u,spec_l09End (p,s,(i:Int),u) () = some (e,())) /\ (∀ u,spec_l09Mode (p,s,(i:Int),u) () = some (md,())) /\ e = addZ .i64 x md.1 /\ 0 <= x /\ x <= 60 /\ 1 <= md.1 /\ md.1 <= 12 /\
   (∀ t,runB p s t (i:Int) = (leZ x t && ltZ t e)) /\ ∀ j:Nat,j < p.2.2.2.1.length -> getI md.2.1 (j:Int) = some (useOf p s (j:Int) (i:Int)):=by
 obtain ⟨t,m,md,g1,g2,g3,hm,h0,h6,hmb,-⟩:=form_at hp h hi
 have ge:=fun u => end_eq (p:=p) (s:=s) u hi g1 g2 g3
 have gm:=fun u => mode_eq (p:=p) (s:=s) u hi g2 g3
 unfold modeB at hmb
 simp only [Bool.and_eq_true] at hmb
 have hd:=inB_iff.1 hmb.1.1
 refine ⟨t,_,md,g1,ge,gm,rfl,h0,h6,hd.1,hd.2,fun t' => ?_,fun j hj => ?_⟩
 ·unfold runB
  simp only [g1,ge]
 ·have hlen:=hmb.1.2.2
  rw [eqZ_dec,decide_eq_true_eq,lenI_eq] at hlen
  have hj':j < md.2.1.length:=by omega
  unfold useOf
  simp only [gm,getI_lt hj',Option.getD_some]
theorem running_impl (p:D_Project) (s:D_Schedule) (t:Int) (u:Unit) (hp:Sm_Project 1099511627776 p) (h:formB p s = true):impl_Project_running (p,s,t,u) () = some (runL p s t,()):=by
 obtain ⟨n1,n2⟩:=proj_acts (proj_of_form h)
 unfold impl_Project_running runL
 simp only [lenI_eq,IntRange_impl _ _ (show p.2.1.length <= 200 by omega),some_bind']
 rw [kept_eq (iotaI p.2.1.length) _ (runB p s t) () (by rw [iotaI_length]; omega) (fun a ha => by
  obtain ⟨i,rfl,hi⟩:=iotaI_mem ha
  obtain ⟨x,e,md,g1,ge,-,-,-,-,-,-,gr,-⟩:=run_at hp h hi
  unfold impl_Project_running_1
  simp only [g1,some_bind',end_impl,ge,gr]
  rcases tf (leZ x t) with h1 | h1 <;> simp [h1,end_impl,ge])]
 rfl
theorem runL_mem {p:D_Project} {s:D_Schedule} {t a:Int} (h:a ∈ runL p s t):∃ i:Nat,a = (i:Int) /\ i < p.2.1.length:=iotaI_mem (List.mem_filter.1 h).1
theorem runL_length (p:D_Project) (s:D_Schedule) (t:Int):(runL p s t).length <= p.2.1.length:=by
 have:=List.length_filter_le (runB p s t) (iotaI p.2.1.length)
 rw [iotaI_length] at this
 exact this
theorem usage_impl (p:D_Project) (s:D_Schedule) (j:Nat) (t:Int) (u:Unit) (hp:Sm_Project 1099511627776 p) (h:formB p s = true) (hj:j < p.2.2.2.1.length):impl_Project_usage (p,s,(j:Int),t,u) () = some (useV p s (j:Int) t,()):=by
 have hlen:=runL_length p s t
 have hle:=hp.2.1.1
 unfold impl_Project_usage useV
 simp only [running_impl _ _ _ _ hp h,some_bind',lenI_eq]
 have l0:=fun A:Type => (fold_list (A:=A) (B:=(Bool × Int × Int × List Int × D_Project × D_Schedule × Int × Int × Unit) ⊕ Empty) (C:=Int × Unit) (F:=impl_Project_usage_L0) (fun i n => ((i:Int),((runL p s t).length:Int),runL p s t,p,s,(j:Int),n,())) (runL p s t) (fun _ _ => True) (fun n a => addZ .i64 n (useOf p s (j:Int) a)) (fun n => Sum.inl (false,((runL p s t).length:Int),((runL p s t).length:Int),runL p s t,p,s,(j:Int),n,())) (by omega)
  (fun i n hi _ => by
   obtain ⟨a,ea,ha⟩:=runL_mem (List.getElem_mem hi)
   obtain ⟨x,e,md,-,-,gm,-,-,-,-,-,-,gu⟩:=run_at hp h ha
   refine ⟨?_,trivial⟩
   unfold impl_Project_usage_L0
   simp only [lt_yes hi,if_true,getI_lt hi,some_bind',ea,mode_impl,gm,gu j hj,idxN hi (show (runL p s t).length <= 1099511627776 by omega) (Nat.le_refl _)])
  (fun n _ => by
   unfold impl_Project_usage_L0
   simp only [lt_no,Bool.false_eq_true,if_false])
  (a:=0) (s:=(0,((runL p s t).length:Int),runL p s t,p,s,(j:Int),0,())) rfl trivial).1
 simp only [l0,some_bind']
open Go.Abs
set_option linter.unusedVariables false
set_option linter.unusedSimpArgs false
open Go.Abs
set_option linter.unusedVariables false
set_option linter.unusedSimpArgs false
theorem grow_loop {σ B C E:Type} {F:σ -> Option (Out σ B C)} (emb:Nat -> List E -> σ) (n:Nat) (P:List E -> Prop) (m c:Nat) (b:List E -> B) (hn:n <= 1099511627776)
  (hs:∀ i out,i < n -> out.length <= m + i * c -> P out -> ∃ out',F (emb i out) = some (.norm (emb (i + 1) out')) /\ out'.length <= m + (i + 1) * c /\ P out')
  (he:∀ out,F (emb n out) = some (.exit (b out))) {out:List E} {s:σ} (hs0:s = emb 0 out) (h0:out.length <= m) (hP:P out) :
  ∃ out',(∀ A:Type,loopN (A:=A) big F s = some (.exit (b out'))) /\ out'.length <= m + n * c /\ P out':=by
 classical
 subst hs0
 let f:Nat -> List E -> List E:=fun i out => if h:i < n /\ out.length <= m + i * c /\ P out then Classical.choose (hs i out h.1 h.2.1 h.2.2) else out
 have key:=fun A:Type => fold_loop (A:=A) (F:=F) emb n (fun i out => out.length <= m + i * c /\ P out) f b hn
  (fun i a hi hI => by
   have h:i < n /\ a.length <= m + i * c /\ P a:=⟨hi,hI⟩
   have e:f i a = Classical.choose (hs i a h.1 h.2.1 h.2.2):=dif_pos h
   rw [e]
   exact Classical.choose_spec (hs i a h.1 h.2.1 h.2.2))
  (fun a _ => he a) (a:=out) ⟨by omega,hP⟩
 exact ⟨_,fun A => (key A).1,(key Unit).2⟩
/-- a rule that speaks of what the project has -/
def ruleIn (p:D_Project) (r:D_Rule):Prop:=
 (r.1 = 1 /\ ∃ k:Nat,r.2.1 = (k:Int) /\ k < p.2.2.1.length) \/
 (r.1 = 2 /\ ∃ i:Nat,r.2.1 = (i:Int) /\ i < p.2.1.length) \/
 (r.1 = 3 /\ ∃ j:Nat,r.2.1 = (j:Int) /\ j < p.2.2.2.1.length) \/
 (r.1 = 5 /\ ∃ (j b c:Nat) (h:j < p.2.2.2.1.length),r.2.1 = (j:Int) /\ r.2.2.1 = (b:Int) /\ r.2.2.2.1 = (c:Int) /\ b < p.2.1.length /\ c < p.2.1.length /\ 0 < p.2.2.2.1[j].2.1.length /\ b < c) \/
 (r.1 = 6 /\ ∃ k:Nat,r.2.1 = (k:Int) /\ k < p.2.2.2.2.1.length)
theorem hasResource_eq (p:D_Project) (a:Int) (u:Unit):impl_Project_hasResource (p,a,u) () = some (inB a 0 (subZ .i64 (lenI p.2.2.2.1) 1),()):=by
 unfold impl_Project_hasResource
 simp only [within_eq,some_bind']
theorem hasStock_eq (p:D_Project) (a:Int) (u:Unit):impl_Project_hasStock (p,a,u) () = some (inB a 0 (subZ .i64 (lenI p.2.2.2.2.1) 1),()):=by
 unfold impl_Project_hasStock
 simp only [within_eq,some_bind']
theorem IsMachine_impl_eq:impl_IsMachine = spec_IsMachine:=by
 funext x u
 obtain ⟨p,a,w⟩:=x
 unfold impl_IsMachine spec_IsMachine
 simp only [hasResource_eq,l01In_eq]
/-- is the resource a machine? -/
def machB (p:D_Project) (a:Int):Bool:=if inB a 0 (subZ .i64 (lenI p.2.2.2.1) 1) = true then (match getI p.2.2.2.1 a with | some r => ltZ 0 (lenI r.2.1) | none => false) else false
theorem IsMachine_spec (p:D_Project) (a:Int) (u:Unit) (hp:Sm_Project 1099511627776 p):spec_IsMachine (p,a,u) () = some (machB p a,()):=by
 unfold spec_IsMachine machB
 simp only [l01In_eq,some_bind']
 rcases tf (inB a 0 (subZ .i64 (lenI p.2.2.2.1) 1)) with h | h
 ·simp [h]
 ·obtain ⟨j,rfl,hj⟩:=inB_place hp.2.2.2.1.1 h
  simp [h,getI_lt hj]
theorem machB_at {p:D_Project} (hp:Sm_Project 1099511627776 p) {j:Nat} (hj:j < p.2.2.2.1.length):machB p (j:Int) = ltZ 0 (lenI p.2.2.2.1[j].2.1):=by
 have h:inB (j:Int) 0 (subZ .i64 (lenI p.2.2.2.1) 1) = true:=by
  rw [lenI_sub _ hp.2.2.2.1.1,inB_iff]; omega
 unfold machB
 rw [if_pos h,getI_lt hj]
theorem proj_sizes {p:D_Project} (h:projB p = true):p.2.2.2.1.length <= 3 /\ p.2.2.2.2.1.length <= 2 /\ p.2.2.1.length <= 12:=by
 unfold projB at h
 simp only [Bool.and_eq_true] at h
 obtain ⟨⟨⟨⟨⟨⟨⟨⟨-,-⟩,h1⟩,h2⟩,h3⟩,-⟩,-⟩,-⟩,-⟩:=h
 rw [notB_not,Bool.not_eq_true',Bool.eq_false_iff,Ne,ltZ_iff,lenI_eq] at h1 h2 h3
 omega
theorem add_one {α:Type} (out:List α) (x:α) (h:out.length <= 1000000):addI out [x] = some (out ++ [x]):=addI_ok (by rw [room_eq]; simp; omega)
theorem mem_snoc {α:Type} {P:α -> Prop} {out:List α} {x:α} (h:∀ r ∈ out,P r) (hx:P x):∀ r ∈ out ++ [x],P r:=fun r hr => by
 rcases List.mem_append.1 hr with h' | h'
 ·exact h r h'
 ·rw [List.mem_singleton.1 h']; exact hx
theorem rules_L4 (p:D_Project) (I:List D_Rule -> Prop) (hI:∀ out x,I out -> ruleIn p x -> I (out ++ [x])) (hp:Sm_Project 1099511627776 p) (h6:p.2.1.length <= 6) {j b:Nat} (nres:Int) (hj:j < p.2.2.2.1.length) (hb:b < p.2.1.length) (m:Nat) (hm:m <= 1000) (out:List D_Rule) (h0:out.length <= m) (hP:I out) :
  ∃ out' i,(∀ A:Type,loopN (A:=A) big spec_l10Rules_L4 (((b + 1:Nat):Int),(b:Int),(b:Int),(p.2.1.length:Int),(j:Int),(j:Int),nres,p,out,()) = some (.exit (Sum.inl (false,i,(b:Int),(b:Int),(p.2.1.length:Int),(j:Int),(j:Int),nres,p,out',())))) /\ out'.length <= m + 6 /\ I out':=by
 rcases tf (machB p (j:Int)) with hM | hM
 ·obtain ⟨out',e,h1,h2⟩:=grow_loop (F:=spec_l10Rules_L4) (fun i out => (((b + 1 + i:Nat):Int),(b:Int),(b:Int),(p.2.1.length:Int),(j:Int),(j:Int),nres,p,out,())) 0 I m 1
   (fun out => Sum.inl (false,((b + 1 + 0:Nat):Int),(b:Int),(b:Int),(p.2.1.length:Int),(j:Int),(j:Int),nres,p,out,())) (by omega)
   (fun i out hi => absurd hi (by omega))
   (fun out => by
    unfold spec_l10Rules_L4
    simp only [lenI_eq,IsMachine_spec _ _ _ hp,hM,some_bind',Bool.false_eq_true,if_false]
    rcases tf (ltZ ((b + 1 + 0:Nat):Int) (p.2.1.length:Int)) with h | h <;> simp only [h,if_true,Bool.false_eq_true,if_false,some_bind'])
   (out:=out) rfl h0 hP
  exact ⟨out',_,e,by omega,h2⟩
 ·have hpos:0 < p.2.2.2.1[j].2.1.length:=by
   rw [machB_at hp hj,ltZ_iff,lenI_eq] at hM
   omega
  obtain ⟨out',e,h1,h2⟩:=grow_loop (F:=spec_l10Rules_L4) (fun i out => (((b + 1 + i:Nat):Int),(b:Int),(b:Int),(p.2.1.length:Int),(j:Int),(j:Int),nres,p,out,())) (p.2.1.length - (b + 1)) I m 1
   (fun out => Sum.inl (false,(p.2.1.length:Int),(b:Int),(b:Int),(p.2.1.length:Int),(j:Int),(j:Int),nres,p,out,())) (by omega)
   (fun i out hi hl hR => by
    have hk:b + 1 + i < p.2.1.length:=by omega
    refine ⟨out ++ [(5,(j:Int),(b:Int),((b + 1 + i:Nat):Int),())],?_,by simp; omega,hI _ _ hR (.inr (.inr (.inr (.inl ⟨rfl,j,b,b + 1 + i,hj,rfl,rfl,rfl,hb,hk,hpos,by omega⟩))))⟩
    unfold spec_l10Rules_L4
    simp only [lenI_eq,lt_yes hk,if_true,IsMachine_spec _ _ _ hp,hM,some_bind',add_one out _ (by omega),idxN hk (show p.2.1.length <= 6 by omega) (by omega)]
    rfl)
   (fun out => by
    have e:b + 1 + (p.2.1.length - (b + 1)) = p.2.1.length:=by omega
    unfold spec_l10Rules_L4
    simp only [e,lenI_eq,lt_no,Bool.false_eq_true,if_false,some_bind'])
   (out:=out) rfl h0 hP
  exact ⟨out',_,e,by omega,h2⟩
theorem rules_L5 (p:D_Project) (I:List D_Rule -> Prop) (hI:∀ out x,I out -> ruleIn p x -> I (out ++ [x])) (hp:Sm_Project 1099511627776 p) (h6:p.2.1.length <= 6) {j:Nat} (nres:Int) (hj:j < p.2.2.2.1.length) (m:Nat) (hm:m <= 900) (out:List D_Rule) (h0:out.length <= m) (hP:I out) :
  ∃ out',(∀ A:Type,loopN (A:=A) big spec_l10Rules_L5 (0,(p.2.1.length:Int),(j:Int),(j:Int),nres,p,out,()) = some (.exit (Sum.inl (false,(p.2.1.length:Int),(p.2.1.length:Int),(j:Int),(j:Int),nres,p,out',())))) /\ out'.length <= m + 36 /\ I out':=by
 obtain ⟨out',e,h1,h2⟩:=grow_loop (F:=spec_l10Rules_L5) (fun i out => ((i:Int),(p.2.1.length:Int),(j:Int),(j:Int),nres,p,out,())) p.2.1.length I m 6
  (fun out => Sum.inl (false,(p.2.1.length:Int),(p.2.1.length:Int),(j:Int),(j:Int),nres,p,out,())) (by omega)
  (fun i out hi hl hR => by
   obtain ⟨out',k,e,g1,g2⟩:=rules_L4 p I hI hp h6 nres hj hi (m + i * 6) (by omega) out hl hR
   refine ⟨out',?_,by omega,g2⟩
   unfold spec_l10Rules_L5
   simp only [lt_yes hi,if_true,idxN hi (show p.2.1.length <= 6 by omega) (by omega),e,some_bind'])
  (fun out => by
   unfold spec_l10Rules_L5
   simp only [lt_no,Bool.false_eq_true,if_false])
  (out:=out) rfl h0 hP
 exact ⟨out',e,by omega,h2⟩
theorem rules_L2 (p:D_Project) (I:List D_Rule -> Prop) (hI:∀ out x,I out -> ruleIn p x -> I (out ++ [x])) {j:Nat} (nres:Int) (hj:j < p.2.2.2.1.length) (m:Nat) (hm:m <= 900) (out:List D_Rule) (h0:out.length <= m) (hP:I out) :
  ∃ out',(∀ A:Type,loopN (A:=A) big spec_l10Rules_L2 (0,(j:Int),(j:Int),nres,p,out,()) = some (.exit (Sum.inl (false,((61:Nat):Int),(j:Int),(j:Int),nres,p,out',())))) /\ out'.length <= m + 61 /\ I out':=by
 obtain ⟨out',e,h1,h2⟩:=grow_loop (F:=spec_l10Rules_L2) (fun i out => ((i:Int),(j:Int),(j:Int),nres,p,out,())) 61 I m 1
  (fun out => Sum.inl (false,((61:Nat):Int),(j:Int),(j:Int),nres,p,out,())) (by omega)
  (fun i out hi hl hR => by
   have ht:leZ (i:Int) 60 = true:=by rw [leZ_iff]; omega
   refine ⟨out ++ [(3,(j:Int),(i:Int),0,())],?_,by simp; omega,hI _ _ hR (.inr (.inr (.inl ⟨rfl,j,rfl,hj⟩)))⟩
   unfold spec_l10Rules_L2
   simp only [ht,if_true,add_one out _ (by omega),some_bind',idxN hi (Nat.le_refl _) (show 61 <= 1099511627776 by omega)])
  (fun out => by
   have ht:leZ ((61:Nat):Int) 60 = false:=rfl
   unfold spec_l10Rules_L2
   simp only [ht,Bool.false_eq_true,if_false])
  (out:=out) rfl h0 hP
 exact ⟨out',e,by omega,h2⟩
/-- the rules of a project -/
def ruleL (p:D_Project):List D_Rule:=match spec_l10Rules (p,()) () with | some l => l.1 | none => []
theorem foldl_snoc_map {α β:Type} (f:α -> β):∀ (l:List α) (out:List β),l.foldl (fun out x => out ++ [f x]) out = out ++ l.map f
 | [],out => by simp
 | x :: l,out => by
  rw [List.foldl_cons,foldl_snoc_map f l]
  simp
def linkR (p:D_Project):List D_Rule:=(iotaI p.2.2.1.length).map fun k => (1,k,0,0,())
def endR (p:D_Project):List D_Rule:=(iotaI p.2.1.length).map fun a => (2,a,0,0,())
theorem rules_ok (p:D_Project) (hp:Sm_Project 1099511627776 p) (h:projB p = true):∃ l,spec_l10Rules (p,()) () = some (l,()) /\ l.length <= 400 /\ (∀ r ∈ l,ruleIn p r) /\ (linkR p ++ endR p) <+: l:=by
 obtain ⟨-,h6⟩:=proj_acts h
 obtain ⟨hr,hst,hk⟩:=proj_sizes h
 have e0:=fun A:Type => (fold_loop (A:=A) (F:=spec_l10Rules_L0) (fun i out => ((i:Int),(p.2.2.1.length:Int),p,out,())) p.2.2.1.length (fun i out => out.length = i) (fun i out => out ++ [(1,(i:Int),0,0,())]) (fun out => Sum.inl (false,(p.2.2.1.length:Int),(p.2.2.1.length:Int),p,out,())) (by omega)
  (fun i out hi hl => by
   refine ⟨?_,by simp; omega⟩
   unfold spec_l10Rules_L0
   simp only [lt_yes hi,if_true,add_one out _ (by omega),some_bind',idxN hi hk (show 12 <= 1099511627776 by omega)])
  (fun out _ => by
   unfold spec_l10Rules_L0
   simp only [lt_no,Bool.false_eq_true,if_false])
  (a:=[]) rfl).1
 have f0:foldN (fun i (out:List D_Rule) => out ++ [(1,(i:Int),0,0,())]) p.2.2.1.length 0 [] = linkR p:=by
  rw [foldN_iota (fun (out:List D_Rule) (x:Int) => out ++ [(1,x,0,0,())]) p.2.2.1.length [],foldl_snoc_map]
  rfl
 have n0:(linkR p).length <= 12:=by simp [linkR,iotaI_length]; omega
 have e1:=fun A:Type => (fold_loop (A:=A) (F:=spec_l10Rules_L1) (fun i out => ((i:Int),(p.2.1.length:Int),p,out,())) p.2.1.length (fun i out => out.length <= 12 + i) (fun i out => out ++ [(2,(i:Int),0,0,())]) (fun out => Sum.inl (false,(p.2.1.length:Int),(p.2.1.length:Int),p,out,())) (by omega)
  (fun i out hi hl => by
   refine ⟨?_,by simp; omega⟩
   unfold spec_l10Rules_L1
   simp only [lt_yes hi,if_true,add_one out _ (by omega),some_bind',idxN hi h6 (show 6 <= 1099511627776 by omega)])
  (fun out _ => by
   unfold spec_l10Rules_L1
   simp only [lt_no,Bool.false_eq_true,if_false])
  (a:=linkR p) (by omega)).1
 have f1:foldN (fun i (out:List D_Rule) => out ++ [(2,(i:Int),0,0,())]) p.2.1.length 0 (linkR p) = linkR p ++ endR p:=by
  rw [foldN_iota (fun (out:List D_Rule) (x:Int) => out ++ [(2,x,0,0,())]) p.2.1.length (linkR p),foldl_snoc_map]
  rfl
 have n1:(linkR p ++ endR p).length <= 18:=by simp [linkR,endR,iotaI_length]; omega
 have P1:∀ r ∈ linkR p ++ endR p,ruleIn p r:=fun r hr => by
  rcases List.mem_append.1 hr with hr | hr
  ·obtain ⟨x,hx,rfl⟩:=List.mem_map.1 hr
   obtain ⟨i,rfl,hi⟩:=iotaI_mem hx
   exact .inl ⟨rfl,i,rfl,hi⟩
  ·obtain ⟨x,hx,rfl⟩:=List.mem_map.1 hr
   obtain ⟨i,rfl,hi⟩:=iotaI_mem hx
   exact .inr (.inl ⟨rfl,i,rfl,hi⟩)
 let I:List D_Rule -> Prop:=fun out => (∀ r ∈ out,ruleIn p r) /\ (linkR p ++ endR p) <+: out
 have hI:∀ out x,I out -> ruleIn p x -> I (out ++ [x]):=fun out x h hx => ⟨mem_snoc h.1 hx,h.2.trans (List.prefix_append _ _)⟩
 obtain ⟨o3,e3,l3,P3⟩:=grow_loop (F:=spec_l10Rules_L3) (fun i out => ((i:Int),(p.2.2.2.1.length:Int),p,out,())) p.2.2.2.1.length I 18 61
  (fun out => Sum.inl (false,(p.2.2.2.1.length:Int),(p.2.2.2.1.length:Int),p,out,())) (by omega)
  (fun i out hi hl hR => by
   obtain ⟨out',e,g1,g2⟩:=rules_L2 p I hI (p.2.2.2.1.length:Int) hi (18 + i * 61) (by omega) out hl hR
   refine ⟨out',?_,by omega,g2⟩
   unfold spec_l10Rules_L3
   simp only [lt_yes hi,if_true,e,some_bind',idxN hi hr (show 3 <= 1099511627776 by omega)])
  (fun out => by
   unfold spec_l10Rules_L3
   simp only [lt_no,Bool.false_eq_true,if_false])
  (out:=linkR p ++ endR p) rfl n1 ⟨P1,List.prefix_rfl⟩
 obtain ⟨o6,e6,l6,P6⟩:=grow_loop (F:=spec_l10Rules_L6) (fun i out => ((i:Int),(p.2.2.2.1.length:Int),p,out,())) p.2.2.2.1.length I 201 36
  (fun out => Sum.inl (false,(p.2.2.2.1.length:Int),(p.2.2.2.1.length:Int),p,out,())) (by omega)
  (fun i out hi hl hR => by
   obtain ⟨out',e,g1,g2⟩:=rules_L5 p I hI hp h6 (p.2.2.2.1.length:Int) hi (201 + i * 36) (by omega) out hl hR
   refine ⟨out',?_,by omega,g2⟩
   unfold spec_l10Rules_L6
   simp only [lt_yes hi,if_true,lenI_eq,e,some_bind',idxN hi hr (show 3 <= 1099511627776 by omega)])
  (fun out => by
   unfold spec_l10Rules_L6
   simp only [lt_no,Bool.false_eq_true,if_false])
  (out:=o3) rfl (by omega) P3
 obtain ⟨o7,e7,l7,P7⟩:=grow_loop (F:=spec_l10Rules_L7) (fun i out => ((i:Int),(p.2.2.2.2.1.length:Int),out,())) p.2.2.2.2.1.length I 309 1
  (fun out => Sum.inl (false,(p.2.2.2.2.1.length:Int),(p.2.2.2.2.1.length:Int),out,())) (by omega)
  (fun i out hi hl hR => by
   refine ⟨out ++ [(6,(i:Int),0,0,())],?_,by simp; omega,hI _ _ hR (.inr (.inr (.inr (.inr ⟨rfl,i,rfl,hi⟩))))⟩
   unfold spec_l10Rules_L7
   simp only [lt_yes hi,if_true,add_one out _ (by omega),some_bind',idxN hi hst (show 2 <= 1099511627776 by omega)])
  (fun out => by
   unfold spec_l10Rules_L7
   simp only [lt_no,Bool.false_eq_true,if_false])
  (out:=o6) rfl (by omega) P6
 refine ⟨o7,?_,by omega,P7.1,P7.2⟩
 have z:((0:Nat):Int) = 0:=rfl
 rw [f0] at e0
 rw [f1] at e1
 simp only [z] at e0 e1 e3 e6 e7
 unfold spec_l10Rules
 simp only [lenI_eq,e0,e1,e3,e6,e7,some_bind']
theorem rules_spec (p:D_Project) (u:Unit) (hp:Sm_Project 1099511627776 p) (h:projB p = true):spec_l10Rules (p,u) () = some (ruleL p,()):=by
 obtain ⟨l,e,-,-,-⟩:=rules_ok p hp h
 have:ruleL p = l:=by unfold ruleL; rw [e]
 rw [this]; exact e
theorem ruleL_le {p:D_Project} (hp:Sm_Project 1099511627776 p) (h:projB p = true):(ruleL p).length <= 400 /\ ∀ r ∈ ruleL p,ruleIn p r:=by
 obtain ⟨l,e,h1,h2,-⟩:=rules_ok p hp h
 have:ruleL p = l:=by unfold ruleL; rw [e]
 rw [this]; exact ⟨h1,h2⟩
theorem rules_L2_eq:impl_Project_rules_L2 = spec_l10Rules_L2:=by
 funext v
 have h:ltZ v.1 61 = leZ v.1 60:=by
  rw [Bool.eq_iff_iff,ltZ_iff,leZ_iff]; omega
 unfold impl_Project_rules_L2 spec_l10Rules_L2
 simp only [h]
theorem rules_impl_eq:impl_Project_rules = spec_l10Rules:=by
 have e0:impl_Project_rules_L0 = spec_l10Rules_L0:=rfl
 have e1:impl_Project_rules_L1 = spec_l10Rules_L1:=rfl
 have e3:impl_Project_rules_L3 = spec_l10Rules_L3:=by
  unfold impl_Project_rules_L3 spec_l10Rules_L3
  rw [rules_L2_eq]
  try rfl
 have e4:impl_Project_rules_L4 = spec_l10Rules_L4:=by
  unfold impl_Project_rules_L4 spec_l10Rules_L4
  rw [IsMachine_impl_eq]
  try rfl
 have e5:impl_Project_rules_L5 = spec_l10Rules_L5:=by
  unfold impl_Project_rules_L5 spec_l10Rules_L5
  rw [e4]
  try rfl
 have e6:impl_Project_rules_L6 = spec_l10Rules_L6:=by
  unfold impl_Project_rules_L6 spec_l10Rules_L6
  rw [e5]
  try rfl
 have e7:impl_Project_rules_L7 = spec_l10Rules_L7:=rfl
 unfold impl_Project_rules spec_l10Rules
 rw [e0,e1,e3,e6,e7]
 try rfl
open Go.Abs
set_option linter.unusedVariables false
set_option linter.unusedSimpArgs false
theorem notB_ltZ (x y:Int):notB (ltZ x y) = leZ y x:=by
 rw [notB_not,Bool.eq_iff_iff,Bool.not_eq_true',Bool.eq_false_iff,Ne,ltZ_iff,leZ_iff]; omega
/-- what is used at a time, in the reference's own way -/
theorem l09Use_spec (p:D_Project) (s:D_Schedule) (j:Nat) (t:Int) (u:Unit) (hp:Sm_Project 1099511627776 p) (h:formB p s = true) (hj:j < p.2.2.2.1.length):spec_l09Use (p,s,(j:Int),t,u) () = some (useV p s (j:Int) t,()):=by
 have hle:=hp.2.1.1
 have l0:=fun A:Type => (fold_loop (A:=A) (F:=spec_l09Use_L0) (fun i n => ((i:Int),(p.2.1.length:Int),t,p,s,(j:Int),n,())) p.2.1.length (fun _ _ => True) (fun i n => if runB p s t (i:Int) = true then addZ .i64 n (useOf p s (j:Int) (i:Int)) else n) (fun n => Sum.inl (false,(p.2.1.length:Int),(p.2.1.length:Int),t,p,s,(j:Int),n,())) hle
  (fun i n hi _ => by
   obtain ⟨x,e,md,g1,ge,gm,-,-,-,-,-,gr,gu⟩:=run_at hp h hi
   refine ⟨?_,trivial⟩
   unfold spec_l09Use_L0
   simp only [lt_yes hi,if_true,g1,some_bind',gr]
   rcases tf (leZ x t) with h1 | h1 <;> rcases tf (ltZ t e) with h2 | h2 <;> simp [-Int.natCast_add,h1,h2,ge,gm,gu j hj,idxN hi hle (Nat.le_refl _)])
  (fun n _ => by
   unfold spec_l09Use_L0
   simp only [lt_no,Bool.false_eq_true,if_false])
  (a:=0) trivial).1
 have e0:(((0:Nat):Int),(p.2.1.length:Int),t,p,s,(j:Int),(0:Int),()) = ((0:Int),(p.2.1.length:Int),t,p,s,(j:Int),(0:Int),()):=rfl
 rw [e0] at l0
 have e1:=foldN_iota (fun (n x:Int) => if runB p s t x = true then addZ .i64 n (useOf p s (j:Int) x) else n) p.2.1.length 0
 unfold spec_l09Use useV runL
 simp only [lenI_eq,l0,some_bind',e1,List.foldl_filter]
/-- the capacity at a time -/
def capV (l:List D_Step) (t:Int):Int:=l.foldl (fun n s => if leZ s.1 t = true then s.2.1 else n) 0
theorem l03At_spec (l:List D_Step) (t:Int) (u:Unit) (hl:l.length <= 1099511627776):spec_l03At (l,t,u) () = some (capV l t,()):=by
 have l0:=fun A:Type => (fold_list (A:=A) (F:=spec_l03At_L0) (fun i n => ((i:Int),(l.length:Int),l,t,n,())) l (fun _ _ => True) (fun n s => if leZ s.1 t = true then s.2.1 else n) (fun n => Sum.inl (false,(l.length:Int),(l.length:Int),l,t,n,())) hl
  (fun i n hi _ => by
   refine ⟨?_,trivial⟩
   unfold spec_l03At_L0
   simp only [lt_yes hi,if_true,getI_lt hi,some_bind']
   rcases tf (leZ l[i].1 t) with h1 | h1 <;> simp [-Int.natCast_add,h1,idxN hi hl (Nat.le_refl _)])
  (fun n _ => by
   unfold spec_l03At_L0
   simp only [lt_no,Bool.false_eq_true,if_false])
  (a:=0) (s:=(0,(l.length:Int),l,t,0,())) rfl trivial).1
 unfold spec_l03At capV
 simp only [lenI_eq,l0,some_bind']
theorem capacityAt_impl_eq:impl_capacityAt = spec_l03At:=rfl
/-- what an activity consumes -/
def consOf (p:D_Project) (s:D_Schedule) (k a:Int):Int:=match spec_l09Mode (p,s,a,()) () with
 | some m => (getI m.1.2.2.1 k).getD 0
 | none => 0
def consV (p:D_Project) (s:D_Schedule) (k:Int):Int:=(iotaI p.2.1.length).foldl (fun n a => addZ .i64 n (consOf p s k a)) 0
theorem cons_at {p:D_Project} {s:D_Schedule} (hp:Sm_Project 1099511627776 p) (h:formB p s = true) {i:Nat} (hi:i < p.2.1.length) {k:Nat} (hk:k < p.2.2.2.2.1.length) :
  ∃ md:D_Mode,(∀ u,spec_l09Mode (p,s,(i:Int),u) () = some (md,())) /\ getI md.2.2.1 (k:Int) = some (consOf p s (k:Int) (i:Int)):=by
 obtain ⟨t,m,md,g1,g2,g3,hm,h0,h6,hmb,-⟩:=form_at hp h hi
 have gm:=fun u => mode_eq (p:=p) (s:=s) u hi g2 g3
 unfold modeB at hmb
 simp only [Bool.and_eq_true] at hmb
 have hlen:=hmb.2.2
 rw [eqZ_dec,decide_eq_true_eq,lenI_eq] at hlen
 have hk':k < md.2.2.1.length:=by omega
 refine ⟨md,gm,?_⟩
 unfold consOf
 simp only [gm,getI_lt hk',Option.getD_some]
theorem consumption_L0 (p:D_Project) (s:D_Schedule) (k:Nat) (hp:Sm_Project 1099511627776 p) (h:formB p s = true) (hk:k < p.2.2.2.2.1.length) (A:Type) :
  loopN (A:=A) big spec_ConsumptionOf_L0 (0,(p.2.1.length:Int),p,s,(k:Int),0,()) = some (.exit (Sum.inl (false,(p.2.1.length:Int),(p.2.1.length:Int),p,s,(k:Int),consV p s (k:Int),()))):=by
 have hle:=hp.2.1.1
 have l0:=(fold_loop (A:=A) (F:=spec_ConsumptionOf_L0) (fun i n => ((i:Int),(p.2.1.length:Int),p,s,(k:Int),n,())) p.2.1.length (fun _ _ => True) (fun i n => addZ .i64 n (consOf p s (k:Int) (i:Int))) (fun n => Sum.inl (false,(p.2.1.length:Int),(p.2.1.length:Int),p,s,(k:Int),n,())) hle
  (fun i n hi _ => by
   obtain ⟨md,gm,gc⟩:=cons_at hp h hi hk
   refine ⟨?_,trivial⟩
   unfold spec_ConsumptionOf_L0
   simp only [lt_yes hi,if_true,gm,gc,some_bind',idxN hi hle (Nat.le_refl _)])
  (fun n _ => by
   unfold spec_ConsumptionOf_L0
   simp only [lt_no,Bool.false_eq_true,if_false])
  (a:=0) trivial).1
 have e1:=foldN_iota (fun (n x:Int) => addZ .i64 n (consOf p s (k:Int) x)) p.2.1.length 0
 rw [e1] at l0
 exact l0
theorem inB_at {α:Type} {l:List α} (hl:l.length <= 1099511627776) {j:Nat} (hj:j < l.length):inB (j:Int) 0 (subZ .i64 (lenI l) 1) = true:=by
 rw [lenI_sub _ hl,inB_iff]; omega
theorem inB_atN {α:Type} {l:List α} (hl:l.length <= 1099511627776) {j:Nat} (hj:j < l.length):inB (j:Int) 0 (subZ .i64 (l.length:Int) 1) = true:=inB_at hl hj
theorem ConsumptionOf_spec_at (p:D_Project) (s:D_Schedule) (k:Nat) (u:Unit) (hp:Sm_Project 1099511627776 p) (h:formB p s = true) (hk:k < p.2.2.2.2.1.length):spec_ConsumptionOf (p,s,(k:Int),u) () = some (consV p s (k:Int),()):=by
 unfold spec_ConsumptionOf
 simp only [ScheduleForm_spec _ _ _ hp,h,notB_true,Bool.false_eq_true,if_false,l01In_eq,inB_atN hp.2.2.2.2.1.1 hk,notB_true,Bool.false_eq_true,if_false,some_bind',lenI_eq,consumption_L0 p s k hp h hk]
theorem ConsumptionOf_impl_at (p:D_Project) (s:D_Schedule) (k:Nat) (u:Unit) (hp:Sm_Project 1099511627776 p) (h:formB p s = true) (hk:k < p.2.2.2.2.1.length):impl_ConsumptionOf (p,s,(k:Int),u) () = some (consV p s (k:Int),()):=by
 have e:impl_ConsumptionOf_L0 = spec_ConsumptionOf_L0:=rfl
 unfold impl_ConsumptionOf
 simp only [ScheduleForm_impl _ _ _ hp,h,notB_true,Bool.false_eq_true,if_false,hasStock_eq,inB_atN hp.2.2.2.2.1.1 hk,notB_true,Bool.false_eq_true,if_false,some_bind',lenI_eq,e,consumption_L0 p s k hp h hk]
/-- the time that a machine needs between two activities -/
theorem setup_at {p:D_Project} (h:projB p = true) {j b c:Nat} (hj:j < p.2.2.2.1.length) (h0:0 < p.2.2.2.1[j].2.1.length) (hb:b < p.2.1.length) (hc:c < p.2.1.length) :
  ∃ row n,getI p.2.2.2.1[j].2.1 p.2.1[b].2.1 = some row /\ getI row p.2.1[c].2.1 = some n /\ 0 <= n /\ n <= 12:=by
 unfold projB at h
 simp only [Bool.and_eq_true] at h
 obtain ⟨⟨⟨⟨-,ha⟩,hr⟩,-⟩,-⟩:=h
 have fam:∀ {i:Nat} (hi:i < p.2.1.length),0 <= p.2.1[i].2.1 /\ p.2.1[i].2.1 <= 3:=fun {i} hi => by
  have:=List.all_eq_true.1 ha i (by simpa using hi)
  unfold actI at this
  rw [List.getElem?_eq_getElem hi] at this
  simp only [Bool.and_eq_true] at this
  have h2:=this.1
  unfold actB at h2
  simp only [Bool.and_eq_true] at h2
  exact inB_iff.1 h2.2.1.2
 have h1:=List.all_eq_true.1 hr _ (List.getElem_mem hj)
 unfold resrB at h1
 simp only [Bool.and_eq_true,Bool.or_eq_true,eqZ_dec,decide_eq_true_eq] at h1
 have h4:p.2.2.2.1[j].2.1.length = 4:=by
  rcases h1.2.2 with h | h <;> omega
 obtain ⟨f1,f2⟩:=fam hb
 obtain ⟨f3,f4⟩:=fam hc
 have e1:p.2.1[b].2.1 = ((p.2.1[b].2.1.toNat:Nat):Int):=by omega
 have e2:p.2.1[c].2.1 = ((p.2.1[c].2.1.toNat:Nat):Int):=by omega
 have l1:p.2.1[b].2.1.toNat < p.2.2.2.1[j].2.1.length:=by omega
 have hrow:=List.all_eq_true.1 h1.1 _ (List.getElem_mem l1)
 unfold rowB at hrow
 simp only [Bool.and_eq_true,eqZ_dec,decide_eq_true_eq] at hrow
 have l2:p.2.1[c].2.1.toNat < p.2.2.2.1[j].2.1[p.2.1[b].2.1.toNat].length:=by omega
 have hn:=inB_iff.1 (List.all_eq_true.1 hrow.2 _ (List.getElem_mem l2))
 exact ⟨p.2.2.2.1[j].2.1[p.2.1[b].2.1.toNat],p.2.2.2.1[j].2.1[p.2.1[b].2.1.toNat][p.2.1[c].2.1.toNat],(congrArg (getI _) e1).trans (getI_lt l1),(congrArg (getI _) e2).trans (getI_lt l2),hn.1,hn.2⟩
theorem SetupTime_impl_at {p:D_Project} (hp:Sm_Project 1099511627776 p) (h:projB p = true) {j b c:Nat} {row:List Int} {n:Int} (u:Unit) (hj:j < p.2.2.2.1.length) (h0:0 < p.2.2.2.1[j].2.1.length) (hb:b < p.2.1.length) (hc:c < p.2.1.length)
  (h1:getI p.2.2.2.1[j].2.1 p.2.1[b].2.1 = some row) (h2:getI row p.2.1[c].2.1 = some n):impl_SetupTime (p,(j:Int),(b:Int),(c:Int),u) () = some (n,()):=by
 have hM:machB p (j:Int) = true:=by
  rw [machB_at hp hj,ltZ_iff,lenI_eq]; omega
 unfold impl_SetupTime
 simp only [IsMachine_impl_eq,IsMachine_spec _ _ _ hp,hM,notB_true,Bool.false_eq_true,if_false,ProjectOk_impl _ _ hp,h,hasActivity_eq,inB_at hp.2.1.1 hb,inB_at hp.2.1.1 hc,some_bind',getI_lt hj,getI_lt hb,getI_lt hc,h1,h2]
theorem Ahead_spec_at {p:D_Project} {s:D_Schedule} {j b c:Nat} {row:List Int} {n x e:Int} (u:Unit) (hj:j < p.2.2.2.1.length) (hb:b < p.2.1.length) (hc:c < p.2.1.length)
  (h1:getI p.2.2.2.1[j].2.1 p.2.1[b].2.1 = some row) (h2:getI row p.2.1[c].2.1 = some n) (he:∀ u,spec_l09End (p,s,(b:Int),u) () = some (e,())) (hx:getI s.1 (c:Int) = some x):spec_l10Ahead (p,s,(j:Int),(b:Int),(c:Int),u) () = some (leZ (addZ .i64 e n) x,()):=by
 unfold spec_l10Ahead
 simp only [he,some_bind',getI_lt hj,getI_lt hb,getI_lt hc,h1,h2,hx]
/-- what a link leaves -/
theorem link_at {p:D_Project} (hp:Sm_Project 1099511627776 p) (h:projB p = true) {k:Nat} (hk:k < p.2.2.1.length):∃ f t:Nat,p.2.2.1[k].1 = (f:Int) /\ p.2.2.1[k].2.1 = (t:Int) /\ f < p.2.1.length /\ t < p.2.1.length /\ f ≠ t /\ -60 <= p.2.2.1[k].2.2.2.1 /\ p.2.2.1[k].2.2.2.1 <= 60:=by
 unfold projB at h
 simp only [Bool.and_eq_true] at h
 have h1:=List.all_eq_true.1 h.2 _ (List.getElem_mem hk)
 unfold linkB at h1
 simp only [Bool.and_eq_true] at h1
 obtain ⟨f,e1,f1⟩:=inB_place hp.2.1.1 h1.1.1.1
 obtain ⟨t,e2,t1⟩:=inB_place hp.2.1.1 h1.1.1.2
 have h3:=h1.1.2
 rw [notB_not,eqZ_dec,e1,e2] at h3
 have h4:=inB_iff.1 h1.2
 refine ⟨f,t,e1,e2,f1,t1,fun e => ?_,h4.1,h4.2⟩
 subst e
 simp at h3
theorem linkHolds_fails (p:D_Project) (s:D_Schedule) (k:Nat) (r3 r4:Int) (hp:Sm_Project 1099511627776 p) (h:formB p s = true) (hk:k < p.2.2.1.length):∃ b,(∀ u,spec_l10Fails (p,s,(1,(k:Int),r3,r4,()),u) () = some (b,())) /\ ∀ u,impl_Project_linkHolds (p,s,p.2.2.1[k],u) () = some (notB b,()):=by
 obtain ⟨f,t,ef,et,hf,ht,-⟩:=link_at hp (proj_of_form h) hk
 obtain ⟨x,e,md,g1,ge,-⟩:=run_at hp h hf
 obtain ⟨y,e',md',g1',ge',-⟩:=run_at hp h ht
 have z:eqZ 1 1 = true:=rfl
 rcases tf p.2.2.1[k].2.2.1 with hb | hb
 ·refine ⟨ltZ y (addZ .i64 x p.2.2.1[k].2.2.2.1),fun u => ?_,fun u => ?_⟩
  ·unfold spec_l10Fails
   simp only [z,if_true,getI_lt hk,some_bind',ef,et,g1,g1',ge,hb,Bool.false_eq_true,if_false]
  ·unfold impl_Project_linkHolds
   simp only [end_impl,some_bind',ef,et,g1,g1',ge,hb,Bool.false_eq_true,if_false,notB_ltZ]
 ·refine ⟨ltZ y (addZ .i64 e p.2.2.1[k].2.2.2.1),fun u => ?_,fun u => ?_⟩
  ·unfold spec_l10Fails
   simp only [z,if_true,getI_lt hk,some_bind',ef,et,g1,g1',ge,hb]
  ·unfold impl_Project_linkHolds
   simp only [end_impl,some_bind',ef,et,g1,g1',ge,hb,if_true,notB_ltZ]
theorem rule_holds {p:D_Project} {s:D_Schedule} {r:D_Rule} (hp:Sm_Project 1099511627776 p) (h:formB p s = true) (hr:ruleIn p r) :
  ∃ b,(∀ u,spec_l10Fails (p,s,r,u) () = some (b,())) /\ ∀ u,impl_Project_satisfies (p,s,r,u) () = some (notB b,()):=by
 have h0:=proj_of_form h
 obtain ⟨k,a,r3,r4,⟨⟩⟩:=r
 unfold ruleIn at hr
 simp only at hr
 rcases hr with ⟨rfl,k,rfl,hk⟩ | ⟨rfl,i,rfl,hi⟩ | ⟨rfl,j,rfl,hj⟩ | ⟨rfl,j,b,c,hj,rfl,rfl,rfl,hb,hc,hpos,-⟩ | ⟨rfl,k,rfl,hk⟩
 ·obtain ⟨b,e1,e2⟩:=linkHolds_fails p s k r3 r4 hp h hk
  refine ⟨b,e1,fun u => ?_⟩
  have z:eqZ 1 1 = true:=rfl
  unfold impl_Project_satisfies
  simp only [z,if_true,getI_lt hk,some_bind',e2]
 ·obtain ⟨x,e,md,g1,ge,-⟩:=run_at hp h hi
  have z1:eqZ 2 1 = false:=rfl
  have z2:eqZ 2 2 = true:=rfl
  refine ⟨ltZ p.1 e,fun u => ?_,fun u => ?_⟩
  ·unfold spec_l10Fails
   simp only [z1,z2,if_true,Bool.false_eq_true,if_false,some_bind',ge]
  ·unfold impl_Project_satisfies
   simp only [z1,z2,if_true,Bool.false_eq_true,if_false,some_bind',end_impl,ge,notB_ltZ]
 ·have z1:eqZ 3 1 = false:=rfl
  have z2:eqZ 3 2 = false:=rfl
  have z3:eqZ 3 3 = true:=rfl
  have hst:p.2.2.2.1[j].1.length <= 1099511627776:=(hp.2.2.2.1.2 _ (List.getElem_mem hj)).1.1
  refine ⟨ltZ (capV p.2.2.2.1[j].1 r3) (useV p s (j:Int) r3),fun u => ?_,fun u => ?_⟩
  ·unfold spec_l10Fails
   simp only [z1,z2,z3,if_true,Bool.false_eq_true,if_false,some_bind',l09Use_spec _ _ _ _ _ hp h hj,getI_lt hj,l03At_spec _ _ _ hst]
  ·unfold impl_Project_satisfies
   simp only [z1,z2,z3,if_true,Bool.false_eq_true,if_false,some_bind',usage_impl _ _ _ _ _ hp h hj,getI_lt hj,capacityAt_impl_eq,l03At_spec _ _ _ hst,notB_ltZ]
 ·have z1:eqZ 5 1 = false:=rfl
  have z2:eqZ 5 2 = false:=rfl
  have z3:eqZ 5 3 = false:=rfl
  have z4:eqZ 5 4 = false:=rfl
  have z5:eqZ 5 5 = true:=rfl
  obtain ⟨x,e,md,g1,ge,gm,-,-,-,-,-,gr,gu⟩:=run_at hp h hb
  obtain ⟨x',e',md',g1',ge',gm',-,-,-,-,-,gr',gu'⟩:=run_at hp h hc
  obtain ⟨row,n,s1,s2,-⟩:=setup_at h0 hj hpos hb hc
  obtain ⟨row',n',s1',s2',-⟩:=setup_at h0 hj hpos hc hb
  have A1:=fun u => Ahead_spec_at (p:=p) (s:=s) u hj hb hc s1 s2 ge g1'
  have A2:=fun u => Ahead_spec_at (p:=p) (s:=s) u hj hc hb s1' s2' ge' g1
  have S1:=fun u => SetupTime_impl_at hp h0 u hj hpos hb hc s1 s2
  have S2:=fun u => SetupTime_impl_at hp h0 u hj hpos hc hb s1' s2'
  refine ⟨(if eqZ (useOf p s (j:Int) (b:Int)) 0 = true then false else if eqZ (useOf p s (j:Int) (c:Int)) 0 = true then false else if leZ (addZ .i64 e n) x' = true then false else notB (leZ (addZ .i64 e' n') x)),fun u => ?_,fun u => ?_⟩
  ·unfold spec_l10Fails spec_l10Pair
   simp only [z1,z2,z3,z4,z5,if_true,Bool.false_eq_true,if_false,some_bind',gm,gm',gu j hj,gu' j hj]
   rcases tf (eqZ (useOf p s (j:Int) (b:Int)) 0) with h1 | h1 <;> rcases tf (eqZ (useOf p s (j:Int) (c:Int)) 0) with h2 | h2 <;> rcases tf (leZ (addZ .i64 e n) x') with h3 | h3 <;> simp [notB,h1,h2,h3,gm',gu' j hj,A1,A2]
  ·unfold impl_Project_satisfies impl_Project_pairHolds
   simp only [z1,z2,z3,z4,z5,if_true,Bool.false_eq_true,if_false,some_bind',mode_impl,end_impl,gm,gm',gu j hj,gu' j hj]
   rcases tf (eqZ (useOf p s (j:Int) (b:Int)) 0) with h1 | h1 <;> rcases tf (eqZ (useOf p s (j:Int) (c:Int)) 0) with h2 | h2 <;> rcases tf (leZ (addZ .i64 e n) x') with h3 | h3 <;> simp [notB,h1,h2,h3,gm',gu' j hj,ge,ge',g1,g1',S1,S2]
 ·have z1:eqZ 6 1 = false:=rfl
  have z2:eqZ 6 2 = false:=rfl
  have z3:eqZ 6 3 = false:=rfl
  have z4:eqZ 6 4 = false:=rfl
  have z5:eqZ 6 5 = false:=rfl
  refine ⟨ltZ p.2.2.2.2.1[k] (consV p s (k:Int)),fun u => ?_,fun u => ?_⟩
  ·unfold spec_l10Fails
   simp only [z1,z2,z3,z4,z5,Bool.false_eq_true,if_false,some_bind',ConsumptionOf_spec_at _ _ _ _ hp h hk,getI_lt hk]
  ·unfold impl_Project_satisfies
   simp only [z1,z2,z3,z4,z5,Bool.false_eq_true,if_false,some_bind',ConsumptionOf_impl_at _ _ _ _ hp h hk,getI_lt hk,notB_ltZ]
/-- does a schedule break a rule? -/
def failB (p:D_Project) (s:D_Schedule) (r:D_Rule):Bool:=match spec_l10Fails (p,s,r,()) () with | some b => b.1 | none => false
theorem satisfies_impl {p:D_Project} {s:D_Schedule} {r:D_Rule} (hp:Sm_Project 1099511627776 p) (h:formB p s = true) (hr:ruleIn p r) (u:Unit):impl_Project_satisfies (p,s,r,u) () = some (notB (failB p s r),()):=by
 obtain ⟨b,e,e'⟩:=rule_holds hp h hr
 unfold failB
 simp only [e,e']
/-- the rules that a schedule breaks -/
def violL (p:D_Project) (s:D_Schedule):List D_Rule:=if formB p s = true then (ruleL p).filter (failB p s) else []
theorem ViolatedRules_impl (p:D_Project) (s:D_Schedule) (u:Unit) (hp:Sm_Project 1099511627776 p):impl_ViolatedRules (p,s,u) () = some (violL p s,()):=by
 unfold impl_ViolatedRules violL
 simp only [ScheduleForm_impl _ _ _ hp,some_bind']
 rcases tf (formB p s) with h | h
 ·simp [h,notB]
 have h0:=proj_of_form h
 obtain ⟨hl,hR⟩:=ruleL_le hp h0
 have l0:=fun A:Type => (fold_list (A:=A) (F:=impl_ViolatedRules_L0) (fun i out => ((i:Int),((ruleL p).length:Int),ruleL p,p,s,out,())) (ruleL p) (fun i out => out.length <= i) (fun out r => if failB p s r = true then out ++ [r] else out) (fun out => Sum.inl (false,((ruleL p).length:Int),((ruleL p).length:Int),ruleL p,p,s,out,())) (by omega)
  (fun i out hi ho => by
   have ha:=add_one out (ruleL p)[i] (by omega)
   have hf:=fun u => satisfies_impl hp h (hR _ (List.getElem_mem hi)) u
   constructor
   ·unfold impl_ViolatedRules_L0
    simp only [lt_yes hi,if_true,getI_lt hi,some_bind',hf]
    rcases tf (failB p s (ruleL p)[i]) with h1 | h1 <;> simp [-Int.natCast_add,notB,h1,ha,idxN hi hl (show 400 <= 1099511627776 by omega)]
   ·rcases tf (failB p s (ruleL p)[i]) with h1 | h1 <;> simp [h1] <;> omega)
  (fun out ho => by
   unfold impl_ViolatedRules_L0
   simp only [lt_no,Bool.false_eq_true,if_false])
  (a:=[]) (s:=(0,((ruleL p).length:Int),ruleL p,p,s,[],())) rfl (Nat.le_refl _)).1
 simp only [h,notB_true,Bool.false_eq_true,if_false,if_true,rules_impl_eq,rules_spec _ _ hp h0,some_bind',lenI_eq,l0,foldl_filter,List.nil_append]
/-- is a schedule valid? -/
def okV (p:D_Project) (s:D_Schedule):Bool:=formB p s && eqZ (lenI (violL p s)) 0
theorem ScheduleOk_impl (p:D_Project) (s:D_Schedule) (u:Unit) (hp:Sm_Project 1099511627776 p):impl_ScheduleOk (p,s,u) () = some (okV p s,()):=by
 unfold impl_ScheduleOk okV
 simp only [ScheduleForm_impl _ _ _ hp,ViolatedRules_impl _ _ _ hp,some_bind']
 rcases tf (formB p s) with h | h <;> simp [h]
end Go.Proofs.YteggmejnpcfalaaGreat
