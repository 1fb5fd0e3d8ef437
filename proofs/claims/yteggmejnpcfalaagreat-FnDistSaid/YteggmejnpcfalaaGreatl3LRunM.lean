/-
  Plain laws: numbers in a row, lists that hold a number, sets, domains (several small texts in one). Condition: no list is longer than 2 to the 40.
-/
import Derived.Test.YteggmejnpcfalaaGreatl3LProjM
import Derived.Test.YteggmejnpcfalaaGreatl3LGenA
import Derived.Test.YteggmejnpcfalaaGreatN35
import Derived.Test.YteggmejnpcfalaaGreatN36
namespace Go.Proofs.YteggmejnpcfalaaGreat
open Go.Abs
set_option linter.unusedVariables false
set_option linter.unusedSimpArgs false
def formI (p:Aa) (s:Ac) (i:Nat):Bool:=match p.2.1[i]?,s.1[i]?,s.2.1[i]? with
 | some a,some t,some m => inB t 0 60 && inB m 0 (subZ .i64 (lenI a.2.2.1) 1)
 | _,_,_ => true
def formB (p:Aa) (s:Ac):Bool:=projB p && eqZ (lenI s.1) (lenI p.2.1) && eqZ (lenI s.2.1) (lenI p.2.1) && (List.range p.2.1.length).all (formI p s)
theorem Iu {α β:Type} {x:List α} {y:List β} (h:eqZ (lenI x) (lenI y) = true):x.length = y.length:=by
 rw [eqZ_dec,decide_eq_true_eq] at h
 exact Int.ofNat.inj h
theorem O1 (p:Aa) (s:Ac) (u:Unit) (h:Af 1099511627776 p):Ju (p,s,u) () = some (formB p s,()):=by
 unfold Ju formB
 simp only [Sa _ _ h,Ab]
 cases projB p with
 | false => simp [notB]
 | true =>
 cases h1:eqZ (lenI s.1) (lenI p.2.1) with
 | false => simp [notB,h1]
 | true =>
 cases h2:eqZ (lenI s.2.1) (lenI p.2.1) with
 | false => simp [notB,h1,h2]
 | true =>
 have e1:=Iu h1
 have e2:=Iu h2
 have ha:=h.2.1.1
 have l0:=fun A:Type => allIS (A:=A) (F:=E6) (fun i => ((i:Int),lenI p.2.1,p.2.1,s,())) (0,lenI p.2.1,p.2.1,s,()) p.2.1.length (formI p s) (Sum.inl (false,lenI p.2.1,lenI p.2.1,p.2.1,s,())) (false,()) rfl ha
  (fun i hi => by
   unfold E6 formI
   have hi1:i < s.1.length:=by omega
   have hi2:i < s.2.1.length:=by omega
   rw [List.getElem?_eq_getElem hi,List.getElem?_eq_getElem hi1,List.getElem?_eq_getElem hi2]
   have hl:ltZ (i:Int) (lenI p.2.1) = true:=lt_yes hi
   simp only [hl,if_true,getI_lt hi,getI_lt hi1,getI_lt hi2,Ab,Bi,idxN hi ha (Nat.le_refl _)]
   rcases tf (inB s.1[i] 0 60) with hp | hp <;> rcases tf (inB s.2.1[i] 0 (subZ .i64 (lenI p.2.1[i].2.2.1) 1)) with hq | hq <;> simp [-Int.natCast_add,notB,hp,hq,getI_lt hi2,Bi,idxN hi ha (Nat.le_refl _)])
  (by unfold E6; simp only [lenI_eq,lt_no,Bool.false_eq_true,if_false])
 simp only [Ak,Bool.false_eq_true,if_false,h1,h2,Ab,l0]
 cases k0:(List.range p.2.1.length).all (formI p s) <;> simp
theorem Ho (p:Aa) (s:Ac) (u:Unit) (h:Af 1099511627776 p):Cj (p,s,u) () = some (formB p s,()):=by
 unfold Cj formB
 simp only [Ay _ _ h,Ab]
 cases projB p with
 | false => simp [notB]
 | true =>
 cases h1:eqZ (lenI s.1) (lenI p.2.1) with
 | false => simp [notB,h1]
 | true =>
 cases h2:eqZ (lenI s.2.1) (lenI p.2.1) with
 | false => simp [notB,h1,h2]
 | true =>
 have e1:=Iu h1
 have e2:=Iu h2
 have ha:=h.2.1.1
 have l0:=fun A:Type => allIS (A:=A) (F:=E7) (fun i => ((i:Int),lenI p.2.1,s,p,())) (0,lenI p.2.1,s,p,()) p.2.1.length (formI p s) (Sum.inl (false,lenI p.2.1,lenI p.2.1,s,p,())) (false,()) rfl ha
  (fun i hi => by
   unfold E7 formI
   have hi1:i < s.1.length:=by omega
   have hi2:i < s.2.1.length:=by omega
   rw [List.getElem?_eq_getElem hi,List.getElem?_eq_getElem hi1,List.getElem?_eq_getElem hi2]
   have hl:ltZ (i:Int) (lenI p.2.1) = true:=lt_yes hi
   simp only [hl,if_true,getI_lt hi,getI_lt hi1,getI_lt hi2,Ab,Q4,Bf,idxN hi ha (Nat.le_refl _)]
   rcases tf (inB s.1[i] 0 60) with hp | hp <;> rcases tf (inB s.2.1[i] 0 (subZ .i64 (lenI p.2.1[i].2.2.1) 1)) with hq | hq <;> simp [-Int.natCast_add,notB,hp,hq,getI_lt hi,getI_lt hi2,Bf,idxN hi ha (Nat.le_refl _)])
  (by unfold E7; simp only [lenI_eq,lt_no,Bool.false_eq_true,if_false])
 simp only [Ak,Bool.false_eq_true,if_false,h1,h2,Ab,l0]
 cases k0:(List.range p.2.1.length).all (formI p s) <;> simp
/-- what a schedule of the right form has at a place -/
theorem form_at {p:Aa} {s:Ac} (hp:Af 1099511627776 p) (h:formB p s = true) {i:Nat} (hi:i < p.2.1.length) :
  ∃ (t:Int) (m:Nat) (md:D_Mode),getI s.1 (i:Int) = some t /\ getI s.2.1 (i:Int) = some (m:Int) /\ getI p.2.1[i].2.2.1 (m:Int) = some md /\ md ∈ p.2.1[i].2.2.1 /\ 0 <= t /\ t <= 60 /\ modeB md (lenI p.2.2.2.1) (lenI p.2.2.2.2.1) = true /\ actB p.2.1[i] (lenI p.2.2.2.1) (lenI p.2.2.2.2.1) = true:=by
 unfold formB at h
 simp only [Bool.and_eq_true] at h
 obtain ⟨⟨⟨h0,h1⟩,h2⟩,h3⟩:=h
 have e1:=Iu h1
 have e2:=Iu h2
 have hi1:i < s.1.length:=by omega
 have hi2:i < s.2.1.length:=by omega
 rw [List.all_eq_true] at h3
 have h4:=h3 i (by simpa using hi)
 unfold formI at h4
 rw [List.getElem?_eq_getElem hi,List.getElem?_eq_getElem hi1,List.getElem?_eq_getElem hi2] at h4
 simp only [Bool.and_eq_true] at h4
 obtain ⟨h5,h6⟩:=h4
 obtain ⟨m,hm,hml⟩:=Ni (hp.2.1.2 _ (List.getElem_mem hi)).2.2.1.1 h6
 have h7:=inB_iff.1 h5
 have hact:actB p.2.1[i] (lenI p.2.2.2.1) (lenI p.2.2.2.2.1) = true:=by
  unfold projB at h0
  simp only [Bool.and_eq_true] at h0
  have:=h0.1.1.1.2
  rw [List.all_eq_true] at this
  have:=this i (by simpa using hi)
  unfold actI at this
  rw [List.getElem?_eq_getElem hi] at this
  simp only [Bool.and_eq_true] at this
  exact this.1
 refine ⟨_,m,p.2.1[i].2.2.1[m],getI_lt hi1,by rw [getI_lt hi2,hm],getI_lt hml,List.getElem_mem hml,h7.1,h7.2,?_,hact⟩
 unfold actB at hact
 simp only [Bool.and_eq_true] at hact
 exact List.all_eq_true.1 hact.1 _ (List.getElem_mem hml)
theorem Bc {p:Aa} {s:Ac} (h:formB p s = true):projB p = true:=by
 unfold formB at h
 simp only [Bool.and_eq_true] at h
 exact h.1.1.1
theorem Wo:Ck = Bz:=rfl
theorem Mu:Ca = Cw:=rfl
theorem end_eq {p:Aa} {s:Ac} {i m:Nat} {t:Int} {md:D_Mode} (u:Unit) (hi:i < p.2.1.length) (h1:getI s.1 (i:Int) = some t) (h2:getI s.2.1 (i:Int) = some (m:Int)) (h3:getI p.2.1[i].2.2.1 (m:Int) = some md) :
  Cw (p,s,(i:Int),u) () = some (addZ .i64 t md.1,()):=by
 unfold Cw Bz
 simp only [h1,getI_lt hi,h2,h3,Ab]
open Go.Abs
set_option linter.unusedVariables false
set_option linter.unusedSimpArgs false
open Go.Abs
set_option linter.unusedVariables false
set_option linter.unusedSimpArgs false
theorem kept_eq (l:List Int) (f:(Int × Unit) -> Option Bool) (q:Int -> Bool) (u:Unit) (hl:l.length <= 1048576) (hf:∀ a ∈ l,f (a,()) = some (q a)):M3 (l,f,u) () = some (l.filter q,()):=by
 unfold M3
 simp only [lenI_eq]
 have l0:=fun A:Type => (Ee (A:=A) (B:=(Bool × Int × Int × List Int × ((Int × Unit) -> Option Bool) × List Int × Unit) ⊕ Empty) (C:=List Int × Unit) (F:=Ls) (fun i out => ((i:Int),(l.length:Int),l,f,out,())) l (fun i out => out.length <= i) (fun out x => if q x = true then out ++ [x] else out) (fun out => Sum.inl (false,(l.length:Int),(l.length:Int),l,f,out,())) (by omega)
  (fun i out hi ho => by
   have ha:addI out [l[i]] = some (out ++ [l[i]]):=addI_ok (by rw [room_eq]; simp; omega)
   constructor
   ·unfold Ls
    simp only [lt_yes hi,if_true,getI_lt hi,Ab,hf _ (List.getElem_mem hi)]
    rcases tf (q l[i]) with h | h <;> simp [-Int.natCast_add,h,ha,idxN hi (show l.length <= 1099511627776 by omega) (Nat.le_refl _)]
   ·rcases tf (q l[i]) with h | h <;> simp [h] <;> omega)
  (fun out ho => by
   unfold Ls
   simp only [lt_no,Bool.false_eq_true,if_false])
  (a:=[]) (s:=(0,(l.length:Int),l,f,[],())) rfl (Nat.le_refl _)).1
 simp only [l0,Ab,foldl_filter,List.nil_append]
theorem Oc (n:Nat) (u:Unit) (hn:n <= 200):Fj ((n:Int),u) () = some (iotaI n,()):=by
 unfold Fj
 have hw:inB (n:Int) 0 200 = true:=inB_iff.2 ⟨by omega,by omega⟩
 simp only [Bf,Ab,hw,Ak,Bool.false_eq_true,if_false]
 have l0:=fun A:Type => (B6 (A:=A) (B:=(Bool × Int × Int × List Int × Unit) ⊕ Empty) (C:=List Int × Unit) (F:=Ic) (fun i out => ((i:Int),(n:Int),out,())) n (fun i out => out.length = i) (fun i out => out ++ [(i:Int)]) (fun out => Sum.inl (false,(n:Int),(n:Int),out,())) (by omega)
  (fun i out hi ho => by
   have ha:addI out [(i:Int)] = some (out ++ [(i:Int)]):=addI_ok (by rw [room_eq]; simp; omega)
   constructor
   ·unfold Ic
    simp only [lt_yes hi,if_true,ha,Ab,idxN hi (show n <= 1099511627776 by omega) (Nat.le_refl _)]
   ·simp [ho])
  (fun out ho => by
   unfold Ic
   simp only [lt_no,Bool.false_eq_true,if_false])
  (a:=[]) rfl).1
 have e0:(((0:Nat):Int),(n:Int),([]:List Int),()) = ((0:Int),(n:Int),([]:List Int),()):=rfl
 rw [e0] at l0
 have e1:=Fw (fun (out:List Int) (x:Int) => out ++ [x]) n []
 simp only [l0,Ab,e1,foldl_append,List.nil_append]
/-- Does an activity run at a time? -/
def runB (p:Aa) (s:Ac) (t a:Int):Bool:=match getI s.1 a,Cw (p,s,a,()) () with
 | some x,some e => leZ x t && ltZ t e.1
 | _,_ => false
def runL (p:Aa) (s:Ac) (t:Int):List Int:=(iotaI p.2.1.length).filter (runB p s t)
/-- what an activity uses -/
def useOf (p:Aa) (s:Ac) (res a:Int):Int:=match Bz (p,s,a,()) () with
 | some m => (getI m.1.2.1 res).getD 0
 | none => 0
def useV (p:Aa) (s:Ac) (res t:Int):Int:=(runL p s t).foldl (fun n a => addZ .i64 n (useOf p s res a)) 0
theorem Me {p:Aa} (h:projB p = true):1 <= p.2.1.length /\ p.2.1.length <= 6:=by
 unfold projB at h
 simp only [Bool.and_eq_true] at h
 have:=inB_iff.1 h.1.1.1.1.1.1.1.2
 rw [lenI_eq] at this
 omega
theorem mode_eq {p:Aa} {s:Ac} {i m:Nat} {md:D_Mode} (u:Unit) (hi:i < p.2.1.length) (h2:getI s.2.1 (i:Int) = some (m:Int)) (h3:getI p.2.1[i].2.2.1 (m:Int) = some md) :
  Bz (p,s,(i:Int),u) () = some (md,()):=by
 unfold Bz
 simp only [getI_lt hi,h2,h3,Ab]
/-- what is known of an activity in a schedule of the right form -/
theorem run_at {p:Aa} {s:Ac} (hp:Af 1099511627776 p) (h:formB p s = true) {i:Nat} (hi:i < p.2.1.length) :
  ∃ (x e:Int) (md:D_Mode),getI s.1 (i:Int) = some x /\ (∀ u,Cw (p,s,(i:Int),u) () = some (e,())) /\ (∀ u,Bz (p,s,(i:Int),u) () = some (md,())) /\ e = addZ .i64 x md.1 /\ 0 <= x /\ x <= 60 /\ 1 <= md.1 /\ md.1 <= 12 /\
   (∀ t,runB p s t (i:Int) = (leZ x t && ltZ t e)) /\ ∀ j:Nat,j < p.2.2.2.1.length -> getI md.2.1 (j:Int) = some (useOf p s (j:Int) (i:Int)):=by
 obtain ⟨t,m,md,g1,g2,g3,hm,h0,h6,hmb,-⟩:=form_at hp h hi
 have ge:=fun u => end_eq (p:=p) (s:=s) u hi g1 g2 g3
 have gm:=fun u => mode_eq (p:=p) (s:=s) u hi g2 g3
 unfold modeB at hmb
 simp only [Bool.and_eq_true] at hmb
 have hd:=inB_iff.1 hmb.1.1
 refine ⟨t,_,md,g1,ge,gm,rfl,h0,h6,hd.1,hd.2,fun t' => ?_,fun j hj => ?_⟩
 ·unfold runB
  simp only [g1,ge]
 ·have hlen:=hmb.1.2.2
  rw [eqZ_dec,decide_eq_true_eq,lenI_eq] at hlen
  have hj':j < md.2.1.length:=by omega
  unfold useOf
  simp only [gm,getI_lt hj',Option.getD_some]
theorem Wd (p:Aa) (s:Ac) (t:Int) (u:Unit) (hp:Af 1099511627776 p) (h:formB p s = true):Ev (p,s,t,u) () = some (runL p s t,()):=by
 obtain ⟨n1,n2⟩:=Me (Bc h)
 unfold Ev runL
 simp only [lenI_eq,Oc _ _ (show p.2.1.length <= 200 by omega),Ab]
 rw [kept_eq (iotaI p.2.1.length) _ (runB p s t) () (by rw [B0]; omega) (fun a ha => by
  obtain ⟨i,rfl,hi⟩:=H3 ha
  obtain ⟨x,e,md,g1,ge,-,-,-,-,-,-,gr,-⟩:=run_at hp h hi
  unfold Fy
  simp only [g1,Ab,Mu,ge,gr]
  rcases tf (leZ x t) with h1 | h1 <;> simp [h1,Mu,ge])]
 rfl
theorem Abw {p:Aa} {s:Ac} {t a:Int} (h:a ∈ runL p s t):∃ i:Nat,a = (i:Int) /\ i < p.2.1.length:=H3 (List.mem_filter.1 h).1
theorem W4 (p:Aa) (s:Ac) (t:Int):(runL p s t).length <= p.2.1.length:=by
 have:=List.length_filter_le (runB p s t) (iotaI p.2.1.length)
 rw [B0] at this
 exact this
theorem Sj (p:Aa) (s:Ac) (j:Nat) (t:Int) (u:Unit) (hp:Af 1099511627776 p) (h:formB p s = true) (hj:j < p.2.2.2.1.length):Eb (p,s,(j:Int),t,u) () = some (useV p s (j:Int) t,()):=by
 have hlen:=W4 p s t
 have hle:=hp.2.1.1
 unfold Eb useV
 simp only [Wd _ _ _ _ hp h,Ab,lenI_eq]
 have l0:=fun A:Type => (Ee (A:=A) (B:=(Bool × Int × Int × List Int × Aa × Ac × Int × Int × Unit) ⊕ Empty) (C:=Int × Unit) (F:=Eh) (fun i n => ((i:Int),((runL p s t).length:Int),runL p s t,p,s,(j:Int),n,())) (runL p s t) (fun _ _ => True) (fun n a => addZ .i64 n (useOf p s (j:Int) a)) (fun n => Sum.inl (false,((runL p s t).length:Int),((runL p s t).length:Int),runL p s t,p,s,(j:Int),n,())) (by omega)
  (fun i n hi _ => by
   obtain ⟨a,ea,ha⟩:=Abw (List.getElem_mem hi)
   obtain ⟨x,e,md,-,-,gm,-,-,-,-,-,-,gu⟩:=run_at hp h ha
   refine ⟨?_,trivial⟩
   unfold Eh
   simp only [lt_yes hi,if_true,getI_lt hi,Ab,ea,Wo,gm,gu j hj,idxN hi (show (runL p s t).length <= 1099511627776 by omega) (Nat.le_refl _)])
  (fun n _ => by
   unfold Eh
   simp only [lt_no,Bool.false_eq_true,if_false])
  (a:=0) (s:=(0,((runL p s t).length:Int),runL p s t,p,s,(j:Int),0,())) rfl trivial).1
 simp only [l0,Ab]
open Go.Abs
set_option linter.unusedVariables false
set_option linter.unusedSimpArgs false
theorem Kq {σ B C E:Type} {F:σ -> Option (Out σ B C)} (emb:Nat -> List E -> σ) (n:Nat) (P:List E -> Prop) (m c:Nat) (b:List E -> B) (hn:n <= 1099511627776)
  (hs:∀ i out,i < n -> out.length <= m + i * c -> P out -> ∃ out',F (emb i out) = some (.norm (emb (i + 1) out')) /\ out'.length <= m + (i + 1) * c /\ P out')
  (he:∀ out,F (emb n out) = some (.exit (b out))) {out:List E} {s:σ} (hs0:s = emb 0 out) (h0:out.length <= m) (hP:P out) :
  ∃ out',(∀ A:Type,loopN (A:=A) big F s = some (.exit (b out'))) /\ out'.length <= m + n * c /\ P out':=by
 classical
 subst hs0
 let f:Nat -> List E -> List E:=fun i out => if h:i < n /\ out.length <= m + i * c /\ P out then Classical.choose (hs i out h.1 h.2.1 h.2.2) else out
 have key:=fun A:Type => B6 (A:=A) (F:=F) emb n (fun i out => out.length <= m + i * c /\ P out) f b hn
  (fun i a hi hI => by
   have h:i < n /\ a.length <= m + i * c /\ P a:=⟨hi,hI⟩
   have e:f i a = Classical.choose (hs i a h.1 h.2.1 h.2.2):=dif_pos h
   rw [e]
   exact Classical.choose_spec (hs i a h.1 h.2.1 h.2.2))
  (fun a _ => he a) (a:=out) ⟨by omega,hP⟩
 exact ⟨_,fun A => (key A).1,(key Unit).2⟩
/-- a rule that speaks of what the project has -/
def ruleIn (p:Aa) (r:D_Rule):Prop:=
 (r.1 = 1 /\ ∃ k:Nat,r.2.1 = (k:Int) /\ k < p.2.2.1.length) \/
 (r.1 = 2 /\ ∃ i:Nat,r.2.1 = (i:Int) /\ i < p.2.1.length) \/
 (r.1 = 3 /\ ∃ j:Nat,r.2.1 = (j:Int) /\ j < p.2.2.2.1.length) \/
 (r.1 = 5 /\ ∃ (j b c:Nat) (h:j < p.2.2.2.1.length),r.2.1 = (j:Int) /\ r.2.2.1 = (b:Int) /\ r.2.2.2.1 = (c:Int) /\ b < p.2.1.length /\ c < p.2.1.length /\ 0 < p.2.2.2.1[j].2.1.length /\ b < c) \/
 (r.1 = 6 /\ ∃ k:Nat,r.2.1 = (k:Int) /\ k < p.2.2.2.2.1.length)
theorem Ry (p:Aa) (a:Int) (u:Unit):A8 (p,a,u) () = some (inB a 0 (subZ .i64 (lenI p.2.2.2.1) 1),()):=by
 unfold A8
 simp only [Bf,Ab]
theorem Xh (p:Aa) (a:Int) (u:Unit):Ec (p,a,u) () = some (inB a 0 (subZ .i64 (lenI p.2.2.2.2.1) 1),()):=by
 unfold Ec
 simp only [Bf,Ab]
theorem L6:Df = Cn:=by
 funext x u
 obtain ⟨p,a,w⟩:=x
 unfold Df Cn
 simp only [Ry,Bi]
/-- is the resource a machine? -/
def machB (p:Aa) (a:Int):Bool:=if inB a 0 (subZ .i64 (lenI p.2.2.2.1) 1) = true then (match getI p.2.2.2.1 a with | some r => ltZ 0 (lenI r.2.1) | none => false) else false
theorem H5 (p:Aa) (a:Int) (u:Unit) (hp:Af 1099511627776 p):Cn (p,a,u) () = some (machB p a,()):=by
 unfold Cn machB
 simp only [Bi,Ab]
 rcases tf (inB a 0 (subZ .i64 (lenI p.2.2.2.1) 1)) with h | h
 ·simp [h]
 ·obtain ⟨j,rfl,hj⟩:=Ni hp.2.2.2.1.1 h
  simp [h,getI_lt hj]
theorem Pv {p:Aa} (hp:Af 1099511627776 p) {j:Nat} (hj:j < p.2.2.2.1.length):machB p (j:Int) = ltZ 0 (lenI p.2.2.2.1[j].2.1):=by
 have h:inB (j:Int) 0 (subZ .i64 (lenI p.2.2.2.1) 1) = true:=by
  rw [Oj _ hp.2.2.2.1.1,inB_iff]; omega
 unfold machB
 rw [if_pos h,getI_lt hj]
theorem Mb {p:Aa} (h:projB p = true):p.2.2.2.1.length <= 3 /\ p.2.2.2.2.1.length <= 2 /\ p.2.2.1.length <= 12:=by
 unfold projB at h
 simp only [Bool.and_eq_true] at h
 obtain ⟨⟨⟨⟨⟨⟨⟨⟨-,-⟩,h1⟩,h2⟩,h3⟩,-⟩,-⟩,-⟩,-⟩:=h
 rw [Nt,Bool.not_eq_true',Bool.eq_false_iff,Ne,ltZ_iff,lenI_eq] at h1 h2 h3
 omega
theorem add_one {α:Type} (out:List α) (x:α) (h:out.length <= 1000000):addI out [x] = some (out ++ [x]):=addI_ok (by rw [room_eq]; simp; omega)
theorem Adk {α:Type} {P:α -> Prop} {out:List α} {x:α} (h:∀ r ∈ out,P r) (hx:P x):∀ r ∈ out ++ [x],P r:=fun r hr => by
 rcases List.mem_append.1 hr with h' | h'
 ·exact h r h'
 ·rw [List.mem_singleton.1 h']; exact hx
theorem Acy (p:Aa) (I:List D_Rule -> Prop) (hI:∀ out x,I out -> ruleIn p x -> I (out ++ [x])) (hp:Af 1099511627776 p) (h6:p.2.1.length <= 6) {j b:Nat} (nres:Int) (hj:j < p.2.2.2.1.length) (hb:b < p.2.1.length) (m:Nat) (hm:m <= 1000) (out:List D_Rule) (h0:out.length <= m) (hP:I out) :
  ∃ out' i,(∀ A:Type,loopN (A:=A) big Av (((b + 1:Nat):Int),(b:Int),(b:Int),(p.2.1.length:Int),(j:Int),(j:Int),nres,p,out,()) = some (.exit (Sum.inl (false,i,(b:Int),(b:Int),(p.2.1.length:Int),(j:Int),(j:Int),nres,p,out',())))) /\ out'.length <= m + 6 /\ I out':=by
 rcases tf (machB p (j:Int)) with hM | hM
 ·obtain ⟨out',e,h1,h2⟩:=Kq (F:=Av) (fun i out => (((b + 1 + i:Nat):Int),(b:Int),(b:Int),(p.2.1.length:Int),(j:Int),(j:Int),nres,p,out,())) 0 I m 1
   (fun out => Sum.inl (false,((b + 1 + 0:Nat):Int),(b:Int),(b:Int),(p.2.1.length:Int),(j:Int),(j:Int),nres,p,out,())) (by omega)
   (fun i out hi => absurd hi (by omega))
   (fun out => by
    unfold Av
    simp only [lenI_eq,H5 _ _ _ hp,hM,Ab,Bool.false_eq_true,if_false]
    rcases tf (ltZ ((b + 1 + 0:Nat):Int) (p.2.1.length:Int)) with h | h <;> simp only [h,if_true,Bool.false_eq_true,if_false,Ab])
   (out:=out) rfl h0 hP
  exact ⟨out',_,e,by omega,h2⟩
 ·have hpos:0 < p.2.2.2.1[j].2.1.length:=by
   rw [Pv hp hj,ltZ_iff,lenI_eq] at hM
   omega
  obtain ⟨out',e,h1,h2⟩:=Kq (F:=Av) (fun i out => (((b + 1 + i:Nat):Int),(b:Int),(b:Int),(p.2.1.length:Int),(j:Int),(j:Int),nres,p,out,())) (p.2.1.length - (b + 1)) I m 1
   (fun out => Sum.inl (false,(p.2.1.length:Int),(b:Int),(b:Int),(p.2.1.length:Int),(j:Int),(j:Int),nres,p,out,())) (by omega)
   (fun i out hi hl hR => by
    have hk:b + 1 + i < p.2.1.length:=by omega
    refine ⟨out ++ [(5,(j:Int),(b:Int),((b + 1 + i:Nat):Int),())],?_,by simp; omega,hI _ _ hR (.inr (.inr (.inr (.inl ⟨rfl,j,b,b + 1 + i,hj,rfl,rfl,rfl,hb,hk,hpos,by omega⟩))))⟩
    unfold Av
    simp only [lenI_eq,lt_yes hk,if_true,H5 _ _ _ hp,hM,Ab,add_one out _ (by omega),idxN hk (show p.2.1.length <= 6 by omega) (by omega)]
    rfl)
   (fun out => by
    have e:b + 1 + (p.2.1.length - (b + 1)) = p.2.1.length:=by omega
    unfold Av
    simp only [e,lenI_eq,lt_no,Bool.false_eq_true,if_false,Ab])
   (out:=out) rfl h0 hP
  exact ⟨out',_,e,by omega,h2⟩
theorem Ac5 (p:Aa) (I:List D_Rule -> Prop) (hI:∀ out x,I out -> ruleIn p x -> I (out ++ [x])) (hp:Af 1099511627776 p) (h6:p.2.1.length <= 6) {j:Nat} (nres:Int) (hj:j < p.2.2.2.1.length) (m:Nat) (hm:m <= 900) (out:List D_Rule) (h0:out.length <= m) (hP:I out) :
  ∃ out',(∀ A:Type,loopN (A:=A) big Bd (0,(p.2.1.length:Int),(j:Int),(j:Int),nres,p,out,()) = some (.exit (Sum.inl (false,(p.2.1.length:Int),(p.2.1.length:Int),(j:Int),(j:Int),nres,p,out',())))) /\ out'.length <= m + 36 /\ I out':=by
 obtain ⟨out',e,h1,h2⟩:=Kq (F:=Bd) (fun i out => ((i:Int),(p.2.1.length:Int),(j:Int),(j:Int),nres,p,out,())) p.2.1.length I m 6
  (fun out => Sum.inl (false,(p.2.1.length:Int),(p.2.1.length:Int),(j:Int),(j:Int),nres,p,out,())) (by omega)
  (fun i out hi hl hR => by
   obtain ⟨out',k,e,g1,g2⟩:=Acy p I hI hp h6 nres hj hi (m + i * 6) (by omega) out hl hR
   refine ⟨out',?_,by omega,g2⟩
   unfold Bd
   simp only [lt_yes hi,if_true,idxN hi (show p.2.1.length <= 6 by omega) (by omega),e,Ab])
  (fun out => by
   unfold Bd
   simp only [lt_no,Bool.false_eq_true,if_false])
  (out:=out) rfl h0 hP
 exact ⟨out',e,by omega,h2⟩
theorem Adf (p:Aa) (I:List D_Rule -> Prop) (hI:∀ out x,I out -> ruleIn p x -> I (out ++ [x])) {j:Nat} (nres:Int) (hj:j < p.2.2.2.1.length) (m:Nat) (hm:m <= 900) (out:List D_Rule) (h0:out.length <= m) (hP:I out) :
  ∃ out',(∀ A:Type,loopN (A:=A) big Be (0,(j:Int),(j:Int),nres,p,out,()) = some (.exit (Sum.inl (false,((61:Nat):Int),(j:Int),(j:Int),nres,p,out',())))) /\ out'.length <= m + 61 /\ I out':=by
 obtain ⟨out',e,h1,h2⟩:=Kq (F:=Be) (fun i out => ((i:Int),(j:Int),(j:Int),nres,p,out,())) 61 I m 1
  (fun out => Sum.inl (false,((61:Nat):Int),(j:Int),(j:Int),nres,p,out,())) (by omega)
  (fun i out hi hl hR => by
   have ht:leZ (i:Int) 60 = true:=by rw [leZ_iff]; omega
   refine ⟨out ++ [(3,(j:Int),(i:Int),0,())],?_,by simp; omega,hI _ _ hR (.inr (.inr (.inl ⟨rfl,j,rfl,hj⟩)))⟩
   unfold Be
   simp only [ht,if_true,add_one out _ (by omega),Ab,idxN hi (Nat.le_refl _) (show 61 <= 1099511627776 by omega)])
  (fun out => by
   have ht:leZ ((61:Nat):Int) 60 = false:=rfl
   unfold Be
   simp only [ht,Bool.false_eq_true,if_false])
  (out:=out) rfl h0 hP
 exact ⟨out',e,by omega,h2⟩
/-- the rules of a project -/
def ruleL (p:Aa):List D_Rule:=match D5 (p,()) () with | some l => l.1 | none => []
theorem L2 {α β:Type} (f:α -> β):∀ (l:List α) (out:List β),l.foldl (fun out x => out ++ [f x]) out = out ++ l.map f
 | [],out => by simp
 | x :: l,out => by
  rw [List.foldl_cons,L2 f l]
  simp
def linkR (p:Aa):List D_Rule:=(iotaI p.2.2.1.length).map fun k => (1,k,0,0,())
def endR (p:Aa):List D_Rule:=(iotaI p.2.1.length).map fun a => (2,a,0,0,())
theorem Tp (p:Aa) (hp:Af 1099511627776 p) (h:projB p = true):∃ l,D5 (p,()) () = some (l,()) /\ l.length <= 400 /\ (∀ r ∈ l,ruleIn p r) /\ (linkR p ++ endR p) <+: l:=by
 obtain ⟨-,h6⟩:=Me h
 obtain ⟨hr,hst,hk⟩:=Mb h
 have e0:=fun A:Type => (B6 (A:=A) (F:=Cc) (fun i out => ((i:Int),(p.2.2.1.length:Int),p,out,())) p.2.2.1.length (fun i out => out.length = i) (fun i out => out ++ [(1,(i:Int),0,0,())]) (fun out => Sum.inl (false,(p.2.2.1.length:Int),(p.2.2.1.length:Int),p,out,())) (by omega)
  (fun i out hi hl => by
   refine ⟨?_,by simp; omega⟩
   unfold Cc
   simp only [lt_yes hi,if_true,add_one out _ (by omega),Ab,idxN hi hk (show 12 <= 1099511627776 by omega)])
  (fun out _ => by
   unfold Cc
   simp only [lt_no,Bool.false_eq_true,if_false])
  (a:=[]) rfl).1
 have f0:foldN (fun i (out:List D_Rule) => out ++ [(1,(i:Int),0,0,())]) p.2.2.1.length 0 [] = linkR p:=by
  rw [Fw (fun (out:List D_Rule) (x:Int) => out ++ [(1,x,0,0,())]) p.2.2.1.length [],L2]
  rfl
 have n0:(linkR p).length <= 12:=by simp [linkR,B0]; omega
 have e1:=fun A:Type => (B6 (A:=A) (F:=Cb) (fun i out => ((i:Int),(p.2.1.length:Int),p,out,())) p.2.1.length (fun i out => out.length <= 12 + i) (fun i out => out ++ [(2,(i:Int),0,0,())]) (fun out => Sum.inl (false,(p.2.1.length:Int),(p.2.1.length:Int),p,out,())) (by omega)
  (fun i out hi hl => by
   refine ⟨?_,by simp; omega⟩
   unfold Cb
   simp only [lt_yes hi,if_true,add_one out _ (by omega),Ab,idxN hi h6 (show 6 <= 1099511627776 by omega)])
  (fun out _ => by
   unfold Cb
   simp only [lt_no,Bool.false_eq_true,if_false])
  (a:=linkR p) (by omega)).1
 have f1:foldN (fun i (out:List D_Rule) => out ++ [(2,(i:Int),0,0,())]) p.2.1.length 0 (linkR p) = linkR p ++ endR p:=by
  rw [Fw (fun (out:List D_Rule) (x:Int) => out ++ [(2,x,0,0,())]) p.2.1.length (linkR p),L2]
  rfl
 have n1:(linkR p ++ endR p).length <= 18:=by simp [linkR,endR,B0]; omega
 have P1:∀ r ∈ linkR p ++ endR p,ruleIn p r:=fun r hr => by
  rcases List.mem_append.1 hr with hr | hr
  ·obtain ⟨x,hx,rfl⟩:=List.mem_map.1 hr
   obtain ⟨i,rfl,hi⟩:=H3 hx
   exact .inl ⟨rfl,i,rfl,hi⟩
  ·obtain ⟨x,hx,rfl⟩:=List.mem_map.1 hr
   obtain ⟨i,rfl,hi⟩:=H3 hx
   exact .inr (.inl ⟨rfl,i,rfl,hi⟩)
 let I:List D_Rule -> Prop:=fun out => (∀ r ∈ out,ruleIn p r) /\ (linkR p ++ endR p) <+: out
 have hI:∀ out x,I out -> ruleIn p x -> I (out ++ [x]):=fun out x h hx => ⟨Adk h.1 hx,h.2.trans (List.prefix_append _ _)⟩
 obtain ⟨o3,e3,l3,P3⟩:=Kq (F:=Bs) (fun i out => ((i:Int),(p.2.2.2.1.length:Int),p,out,())) p.2.2.2.1.length I 18 61
  (fun out => Sum.inl (false,(p.2.2.2.1.length:Int),(p.2.2.2.1.length:Int),p,out,())) (by omega)
  (fun i out hi hl hR => by
   obtain ⟨out',e,g1,g2⟩:=Adf p I hI (p.2.2.2.1.length:Int) hi (18 + i * 61) (by omega) out hl hR
   refine ⟨out',?_,by omega,g2⟩
   unfold Bs
   simp only [lt_yes hi,if_true,e,Ab,idxN hi hr (show 3 <= 1099511627776 by omega)])
  (fun out => by
   unfold Bs
   simp only [lt_no,Bool.false_eq_true,if_false])
  (out:=linkR p ++ endR p) rfl n1 ⟨P1,List.prefix_rfl⟩
 obtain ⟨o6,e6,l6,P6⟩:=Kq (F:=Bx) (fun i out => ((i:Int),(p.2.2.2.1.length:Int),p,out,())) p.2.2.2.1.length I 201 36
  (fun out => Sum.inl (false,(p.2.2.2.1.length:Int),(p.2.2.2.1.length:Int),p,out,())) (by omega)
  (fun i out hi hl hR => by
   obtain ⟨out',e,g1,g2⟩:=Ac5 p I hI hp h6 (p.2.2.2.1.length:Int) hi (201 + i * 36) (by omega) out hl hR
   refine ⟨out',?_,by omega,g2⟩
   unfold Bx
   simp only [lt_yes hi,if_true,lenI_eq,e,Ab,idxN hi hr (show 3 <= 1099511627776 by omega)])
  (fun out => by
   unfold Bx
   simp only [lt_no,Bool.false_eq_true,if_false])
  (out:=o3) rfl (by omega) P3
 obtain ⟨o7,e7,l7,P7⟩:=Kq (F:=B9) (fun i out => ((i:Int),(p.2.2.2.2.1.length:Int),out,())) p.2.2.2.2.1.length I 309 1
  (fun out => Sum.inl (false,(p.2.2.2.2.1.length:Int),(p.2.2.2.2.1.length:Int),out,())) (by omega)
  (fun i out hi hl hR => by
   refine ⟨out ++ [(6,(i:Int),0,0,())],?_,by simp; omega,hI _ _ hR (.inr (.inr (.inr (.inr ⟨rfl,i,rfl,hi⟩))))⟩
   unfold B9
   simp only [lt_yes hi,if_true,add_one out _ (by omega),Ab,idxN hi hst (show 2 <= 1099511627776 by omega)])
  (fun out => by
   unfold B9
   simp only [lt_no,Bool.false_eq_true,if_false])
  (out:=o6) rfl (by omega) P6
 refine ⟨o7,?_,by omega,P7.1,P7.2⟩
 have z:((0:Nat):Int) = 0:=rfl
 rw [f0] at e0
 rw [f1] at e1
 simp only [z] at e0 e1 e3 e6 e7
 unfold D5
 simp only [lenI_eq,e0,e1,e3,e6,e7,Ab]
theorem Zk (p:Aa) (u:Unit) (hp:Af 1099511627776 p) (h:projB p = true):D5 (p,u) () = some (ruleL p,()):=by
 obtain ⟨l,e,-,-,-⟩:=Tp p hp h
 have:ruleL p = l:=by unfold ruleL; rw [e]
 rw [this]; exact e
theorem Xu {p:Aa} (hp:Af 1099511627776 p) (h:projB p = true):(ruleL p).length <= 400 /\ ∀ r ∈ ruleL p,ruleIn p r:=by
 obtain ⟨l,e,h1,h2,-⟩:=Tp p hp h
 have:ruleL p = l:=by unfold ruleL; rw [e]
 rw [this]; exact ⟨h1,h2⟩
theorem Rb {p:Aa} (hp:Af 1099511627776 p) (h:projB p = true):(∀ k:Nat,k < p.2.2.1.length -> ((1,(k:Int),0,0,()):D_Rule) ∈ ruleL p) /\ ∀ a:Nat,a < p.2.1.length -> ((2,(a:Int),0,0,()):D_Rule) ∈ ruleL p:=by
 obtain ⟨l,e,-,-,hpre⟩:=Tp p hp h
 have:ruleL p = l:=by unfold ruleL; rw [e]
 rw [this]
 have hi:∀ {n i:Nat},i < n -> (i:Int) ∈ iotaI n:=fun {n i} h => List.mem_map.2 ⟨i,List.mem_range.2 h,rfl⟩
 refine ⟨fun k hk => hpre.subset (List.mem_append_left _ (List.mem_map.2 ⟨_,hi hk,rfl⟩)),fun a ha => hpre.subset (List.mem_append_right _ (List.mem_map.2 ⟨_,hi ha,rfl⟩))⟩
theorem Xe:Gs = Be:=by
 funext v
 have h:ltZ v.1 61 = leZ v.1 60:=by
  rw [Bool.eq_iff_iff,ltZ_iff,leZ_iff]; omega
 unfold Gs Be
 simp only [h]
theorem To:Gj = D5:=by
 have e0:Km = Cc:=rfl
 have e1:Kl = Cb:=rfl
 have e3:G4 = Bs:=by
  unfold G4 Bs
  rw [Xe]
  try rfl
 have e4:G2 = Av:=by
  unfold G2 Av
  rw [L6]
  try rfl
 have e5:G0 = Bd:=by
  unfold G0 Bd
  rw [e4]
  try rfl
 have e6:Gy = Bx:=by
  unfold Gy Bx
  rw [e5]
  try rfl
 have e7:Kf = B9:=rfl
 unfold Gj D5
 rw [e0,e1,e3,e6,e7]
 try rfl
open Go.Abs
set_option linter.unusedVariables false
set_option linter.unusedSimpArgs false
theorem Om (x y:Int):notB (ltZ x y) = leZ y x:=by
 rw [Nt,Bool.eq_iff_iff,Bool.not_eq_true',Bool.eq_false_iff,Ne,ltZ_iff,leZ_iff]; omega
/-- what is used at a time, in the reference's own way -/
theorem Xk (p:Aa) (s:Ac) (j:Nat) (t:Int) (u:Unit) (hp:Af 1099511627776 p) (h:formB p s = true) (hj:j < p.2.2.2.1.length):Mo (p,s,(j:Int),t,u) () = some (useV p s (j:Int) t,()):=by
 have hle:=hp.2.1.1
 have l0:=fun A:Type => (B6 (A:=A) (F:=Jy) (fun i n => ((i:Int),(p.2.1.length:Int),t,p,s,(j:Int),n,())) p.2.1.length (fun _ _ => True) (fun i n => if runB p s t (i:Int) = true then addZ .i64 n (useOf p s (j:Int) (i:Int)) else n) (fun n => Sum.inl (false,(p.2.1.length:Int),(p.2.1.length:Int),t,p,s,(j:Int),n,())) hle
  (fun i n hi _ => by
   obtain ⟨x,e,md,g1,ge,gm,-,-,-,-,-,gr,gu⟩:=run_at hp h hi
   refine ⟨?_,trivial⟩
   unfold Jy
   simp only [lt_yes hi,if_true,g1,Ab,gr]
   rcases tf (leZ x t) with h1 | h1 <;> rcases tf (ltZ t e) with h2 | h2 <;> simp [-Int.natCast_add,h1,h2,ge,gm,gu j hj,idxN hi hle (Nat.le_refl _)])
  (fun n _ => by
   unfold Jy
   simp only [lt_no,Bool.false_eq_true,if_false])
  (a:=0) trivial).1
 have e0:(((0:Nat):Int),(p.2.1.length:Int),t,p,s,(j:Int),(0:Int),()) = ((0:Int),(p.2.1.length:Int),t,p,s,(j:Int),(0:Int),()):=rfl
 rw [e0] at l0
 have e1:=Fw (fun (n x:Int) => if runB p s t x = true then addZ .i64 n (useOf p s (j:Int) x) else n) p.2.1.length 0
 unfold Mo useV runL
 simp only [lenI_eq,l0,Ab,e1,List.foldl_filter]
/-- the capacity at a time -/
def capV (l:List D_Step) (t:Int):Int:=l.foldl (fun n s => if leZ s.1 t = true then s.2.1 else n) 0
theorem Nv (l:List D_Step) (t:Int) (u:Unit) (hl:l.length <= 1099511627776):Mc (l,t,u) () = some (capV l t,()):=by
 have l0:=fun A:Type => (Ee (A:=A) (F:=K3) (fun i n => ((i:Int),(l.length:Int),l,t,n,())) l (fun _ _ => True) (fun n s => if leZ s.1 t = true then s.2.1 else n) (fun n => Sum.inl (false,(l.length:Int),(l.length:Int),l,t,n,())) hl
  (fun i n hi _ => by
   refine ⟨?_,trivial⟩
   unfold K3
   simp only [lt_yes hi,if_true,getI_lt hi,Ab]
   rcases tf (leZ l[i].1 t) with h1 | h1 <;> simp [-Int.natCast_add,h1,idxN hi hl (Nat.le_refl _)])
  (fun n _ => by
   unfold K3
   simp only [lt_no,Bool.false_eq_true,if_false])
  (a:=0) (s:=(0,(l.length:Int),l,t,0,())) rfl trivial).1
 unfold Mc capV
 simp only [lenI_eq,l0,Ab]
theorem Jo:I5 = Mc:=rfl
/-- what an activity consumes -/
def consOf (p:Aa) (s:Ac) (k a:Int):Int:=match Bz (p,s,a,()) () with
 | some m => (getI m.1.2.2.1 k).getD 0
 | none => 0
def consV (p:Aa) (s:Ac) (k:Int):Int:=(iotaI p.2.1.length).foldl (fun n a => addZ .i64 n (consOf p s k a)) 0
theorem cons_at {p:Aa} {s:Ac} (hp:Af 1099511627776 p) (h:formB p s = true) {i:Nat} (hi:i < p.2.1.length) {k:Nat} (hk:k < p.2.2.2.2.1.length) :
  ∃ md:D_Mode,(∀ u,Bz (p,s,(i:Int),u) () = some (md,())) /\ getI md.2.2.1 (k:Int) = some (consOf p s (k:Int) (i:Int)):=by
 obtain ⟨t,m,md,g1,g2,g3,hm,h0,h6,hmb,-⟩:=form_at hp h hi
 have gm:=fun u => mode_eq (p:=p) (s:=s) u hi g2 g3
 unfold modeB at hmb
 simp only [Bool.and_eq_true] at hmb
 have hlen:=hmb.2.2
 rw [eqZ_dec,decide_eq_true_eq,lenI_eq] at hlen
 have hk':k < md.2.2.1.length:=by omega
 refine ⟨md,gm,?_⟩
 unfold consOf
 simp only [gm,getI_lt hk',Option.getD_some]
theorem Ny (p:Aa) (s:Ac) (k:Nat) (hp:Af 1099511627776 p) (h:formB p s = true) (hk:k < p.2.2.2.2.1.length) (A:Type) :
  loopN (A:=A) big By (0,(p.2.1.length:Int),p,s,(k:Int),0,()) = some (.exit (Sum.inl (false,(p.2.1.length:Int),(p.2.1.length:Int),p,s,(k:Int),consV p s (k:Int),()))):=by
 have hle:=hp.2.1.1
 have l0:=(B6 (A:=A) (F:=By) (fun i n => ((i:Int),(p.2.1.length:Int),p,s,(k:Int),n,())) p.2.1.length (fun _ _ => True) (fun i n => addZ .i64 n (consOf p s (k:Int) (i:Int))) (fun n => Sum.inl (false,(p.2.1.length:Int),(p.2.1.length:Int),p,s,(k:Int),n,())) hle
  (fun i n hi _ => by
   obtain ⟨md,gm,gc⟩:=cons_at hp h hi hk
   refine ⟨?_,trivial⟩
   unfold By
   simp only [lt_yes hi,if_true,gm,gc,Ab,idxN hi hle (Nat.le_refl _)])
  (fun n _ => by
   unfold By
   simp only [lt_no,Bool.false_eq_true,if_false])
  (a:=0) trivial).1
 have e1:=Fw (fun (n x:Int) => addZ .i64 n (consOf p s (k:Int) x)) p.2.1.length 0
 rw [e1] at l0
 exact l0
theorem inB_at {α:Type} {l:List α} (hl:l.length <= 1099511627776) {j:Nat} (hj:j < l.length):inB (j:Int) 0 (subZ .i64 (lenI l) 1) = true:=by
 rw [Oj _ hl,inB_iff]; omega
theorem inB_atN {α:Type} {l:List α} (hl:l.length <= 1099511627776) {j:Nat} (hj:j < l.length):inB (j:Int) 0 (subZ .i64 (l.length:Int) 1) = true:=inB_at hl hj
theorem Nb (p:Aa) (s:Ac) (k:Nat) (u:Unit) (hp:Af 1099511627776 p) (h:formB p s = true) (hk:k < p.2.2.2.2.1.length):Ej (p,s,(k:Int),u) () = some (consV p s (k:Int),()):=by
 unfold Ej
 simp only [O1 _ _ _ hp,h,Ak,Bool.false_eq_true,if_false,Bi,inB_atN hp.2.2.2.2.1.1 hk,Ak,Bool.false_eq_true,if_false,Ab,lenI_eq,Ny p s k hp h hk]
theorem M1 (p:Aa) (s:Ac) (k:Nat) (u:Unit) (hp:Af 1099511627776 p) (h:formB p s = true) (hk:k < p.2.2.2.2.1.length):Gh (p,s,(k:Int),u) () = some (consV p s (k:Int),()):=by
 have e:Kr = By:=rfl
 unfold Gh
 simp only [Ho _ _ _ hp,h,Ak,Bool.false_eq_true,if_false,Xh,inB_atN hp.2.2.2.2.1.1 hk,Ak,Bool.false_eq_true,if_false,Ab,lenI_eq,e,Ny p s k hp h hk]
/-- the time that a machine needs between two activities -/
theorem Qe {p:Aa} (h:projB p = true) {j b c:Nat} (hj:j < p.2.2.2.1.length) (h0:0 < p.2.2.2.1[j].2.1.length) (hb:b < p.2.1.length) (hc:c < p.2.1.length) :
  ∃ row n,getI p.2.2.2.1[j].2.1 p.2.1[b].2.1 = some row /\ getI row p.2.1[c].2.1 = some n /\ 0 <= n /\ n <= 12:=by
 unfold projB at h
 simp only [Bool.and_eq_true] at h
 obtain ⟨⟨⟨⟨-,ha⟩,hr⟩,-⟩,-⟩:=h
 have fam:∀ {i:Nat} (hi:i < p.2.1.length),0 <= p.2.1[i].2.1 /\ p.2.1[i].2.1 <= 3:=fun {i} hi => by
  have:=List.all_eq_true.1 ha i (by simpa using hi)
  unfold actI at this
  rw [List.getElem?_eq_getElem hi] at this
  simp only [Bool.and_eq_true] at this
  have h2:=this.1
  unfold actB at h2
  simp only [Bool.and_eq_true] at h2
  exact inB_iff.1 h2.2.1.2
 have h1:=List.all_eq_true.1 hr _ (List.getElem_mem hj)
 unfold resrB at h1
 simp only [Bool.and_eq_true,Bool.or_eq_true,eqZ_dec,decide_eq_true_eq] at h1
 have h4:p.2.2.2.1[j].2.1.length = 4:=by
  rcases h1.2.2 with h | h <;> omega
 obtain ⟨f1,f2⟩:=fam hb
 obtain ⟨f3,f4⟩:=fam hc
 have e1:p.2.1[b].2.1 = ((p.2.1[b].2.1.toNat:Nat):Int):=by omega
 have e2:p.2.1[c].2.1 = ((p.2.1[c].2.1.toNat:Nat):Int):=by omega
 have l1:p.2.1[b].2.1.toNat < p.2.2.2.1[j].2.1.length:=by omega
 have hrow:=List.all_eq_true.1 h1.1 _ (List.getElem_mem l1)
 unfold rowB at hrow
 simp only [Bool.and_eq_true,eqZ_dec,decide_eq_true_eq] at hrow
 have l2:p.2.1[c].2.1.toNat < p.2.2.2.1[j].2.1[p.2.1[b].2.1.toNat].length:=by omega
 have hn:=inB_iff.1 (List.all_eq_true.1 hrow.2 _ (List.getElem_mem l2))
 exact ⟨p.2.2.2.1[j].2.1[p.2.1[b].2.1.toNat],p.2.2.2.1[j].2.1[p.2.1[b].2.1.toNat][p.2.1[c].2.1.toNat],(congrArg (getI _) e1).trans (getI_lt l1),(congrArg (getI _) e2).trans (getI_lt l2),hn.1,hn.2⟩
theorem L7 {p:Aa} (hp:Af 1099511627776 p) (h:projB p = true) {j b c:Nat} {row:List Int} {n:Int} (u:Unit) (hj:j < p.2.2.2.1.length) (h0:0 < p.2.2.2.1[j].2.1.length) (hb:b < p.2.1.length) (hc:c < p.2.1.length)
  (h1:getI p.2.2.2.1[j].2.1 p.2.1[b].2.1 = some row) (h2:getI row p.2.1[c].2.1 = some n):Cp (p,(j:Int),(b:Int),(c:Int),u) () = some (n,()):=by
 have hM:machB p (j:Int) = true:=by
  rw [Pv hp hj,ltZ_iff,lenI_eq]; omega
 unfold Cp
 simp only [L6,H5 _ _ _ hp,hM,Ak,Bool.false_eq_true,if_false,Ay _ _ hp,h,H0,inB_at hp.2.1.1 hb,inB_at hp.2.1.1 hc,Ab,getI_lt hj,getI_lt hb,getI_lt hc,h1,h2]
theorem K4 {p:Aa} {s:Ac} {j b c:Nat} {row:List Int} {n x e:Int} (u:Unit) (hj:j < p.2.2.2.1.length) (hb:b < p.2.1.length) (hc:c < p.2.1.length)
  (h1:getI p.2.2.2.1[j].2.1 p.2.1[b].2.1 = some row) (h2:getI row p.2.1[c].2.1 = some n) (he:∀ u,Cw (p,s,(b:Int),u) () = some (e,())) (hx:getI s.1 (c:Int) = some x):K2 (p,s,(j:Int),(b:Int),(c:Int),u) () = some (leZ (addZ .i64 e n) x,()):=by
 unfold K2
 simp only [he,Ab,getI_lt hj,getI_lt hb,getI_lt hc,h1,h2,hx]
/-- what a link leaves -/
theorem link_at {p:Aa} (hp:Af 1099511627776 p) (h:projB p = true) {k:Nat} (hk:k < p.2.2.1.length):∃ f t:Nat,p.2.2.1[k].1 = (f:Int) /\ p.2.2.1[k].2.1 = (t:Int) /\ f < p.2.1.length /\ t < p.2.1.length /\ f ≠ t /\ -60 <= p.2.2.1[k].2.2.2.1 /\ p.2.2.1[k].2.2.2.1 <= 60:=by
 unfold projB at h
 simp only [Bool.and_eq_true] at h
 have h1:=List.all_eq_true.1 h.2 _ (List.getElem_mem hk)
 unfold linkB at h1
 simp only [Bool.and_eq_true] at h1
 obtain ⟨f,e1,f1⟩:=Ni hp.2.1.1 h1.1.1.1
 obtain ⟨t,e2,t1⟩:=Ni hp.2.1.1 h1.1.1.2
 have h3:=h1.1.2
 rw [Nt,eqZ_dec,e1,e2] at h3
 have h4:=inB_iff.1 h1.2
 refine ⟨f,t,e1,e2,f1,t1,fun e => ?_,h4.1,h4.2⟩
 subst e
 simp at h3
theorem Rm (p:Aa) (s:Ac) (k:Nat) (r3 r4:Int) (hp:Af 1099511627776 p) (h:formB p s = true) (hk:k < p.2.2.1.length):∃ b,(∀ u,Bn (p,s,(1,(k:Int),r3,r4,()),u) () = some (b,())) /\ ∀ u,Cg (p,s,p.2.2.1[k],u) () = some (notB b,()):=by
 obtain ⟨f,t,ef,et,hf,ht,-⟩:=link_at hp (Bc h) hk
 obtain ⟨x,e,md,g1,ge,-⟩:=run_at hp h hf
 obtain ⟨y,e',md',g1',ge',-⟩:=run_at hp h ht
 have z:eqZ 1 1 = true:=rfl
 rcases tf p.2.2.1[k].2.2.1 with hb | hb
 ·refine ⟨ltZ y (addZ .i64 x p.2.2.1[k].2.2.2.1),fun u => ?_,fun u => ?_⟩
  ·unfold Bn
   simp only [z,if_true,getI_lt hk,Ab,ef,et,g1,g1',ge,hb,Bool.false_eq_true,if_false]
  ·unfold Cg
   simp only [Mu,Ab,ef,et,g1,g1',ge,hb,Bool.false_eq_true,if_false,Om]
 ·refine ⟨ltZ y (addZ .i64 e p.2.2.1[k].2.2.2.1),fun u => ?_,fun u => ?_⟩
  ·unfold Bn
   simp only [z,if_true,getI_lt hk,Ab,ef,et,g1,g1',ge,hb]
  ·unfold Cg
   simp only [Mu,Ab,ef,et,g1,g1',ge,hb,if_true,Om]
theorem Zg {p:Aa} {s:Ac} {r:D_Rule} (hp:Af 1099511627776 p) (h:formB p s = true) (hr:ruleIn p r) :
  ∃ b,(∀ u,Bn (p,s,r,u) () = some (b,())) /\ ∀ u,At (p,s,r,u) () = some (notB b,()):=by
 have h0:=Bc h
 obtain ⟨k,a,r3,r4,⟨⟩⟩:=r
 unfold ruleIn at hr
 simp only at hr
 rcases hr with ⟨rfl,k,rfl,hk⟩ | ⟨rfl,i,rfl,hi⟩ | ⟨rfl,j,rfl,hj⟩ | ⟨rfl,j,b,c,hj,rfl,rfl,rfl,hb,hc,hpos,-⟩ | ⟨rfl,k,rfl,hk⟩
 ·obtain ⟨b,e1,e2⟩:=Rm p s k r3 r4 hp h hk
  refine ⟨b,e1,fun u => ?_⟩
  have z:eqZ 1 1 = true:=rfl
  unfold At
  simp only [z,if_true,getI_lt hk,Ab,e2]
 ·obtain ⟨x,e,md,g1,ge,-⟩:=run_at hp h hi
  have z1:eqZ 2 1 = false:=rfl
  have z2:eqZ 2 2 = true:=rfl
  refine ⟨ltZ p.1 e,fun u => ?_,fun u => ?_⟩
  ·unfold Bn
   simp only [z1,z2,if_true,Bool.false_eq_true,if_false,Ab,ge]
  ·unfold At
   simp only [z1,z2,if_true,Bool.false_eq_true,if_false,Ab,Mu,ge,Om]
 ·have z1:eqZ 3 1 = false:=rfl
  have z2:eqZ 3 2 = false:=rfl
  have z3:eqZ 3 3 = true:=rfl
  have hst:p.2.2.2.1[j].1.length <= 1099511627776:=(hp.2.2.2.1.2 _ (List.getElem_mem hj)).1.1
  refine ⟨ltZ (capV p.2.2.2.1[j].1 r3) (useV p s (j:Int) r3),fun u => ?_,fun u => ?_⟩
  ·unfold Bn
   simp only [z1,z2,z3,if_true,Bool.false_eq_true,if_false,Ab,Xk _ _ _ _ _ hp h hj,getI_lt hj,Nv _ _ _ hst]
  ·unfold At
   simp only [z1,z2,z3,if_true,Bool.false_eq_true,if_false,Ab,Sj _ _ _ _ _ hp h hj,getI_lt hj,Jo,Nv _ _ _ hst,Om]
 ·have z1:eqZ 5 1 = false:=rfl
  have z2:eqZ 5 2 = false:=rfl
  have z3:eqZ 5 3 = false:=rfl
  have z4:eqZ 5 4 = false:=rfl
  have z5:eqZ 5 5 = true:=rfl
  obtain ⟨x,e,md,g1,ge,gm,-,-,-,-,-,gr,gu⟩:=run_at hp h hb
  obtain ⟨x',e',md',g1',ge',gm',-,-,-,-,-,gr',gu'⟩:=run_at hp h hc
  obtain ⟨row,n,s1,s2,-⟩:=Qe h0 hj hpos hb hc
  obtain ⟨row',n',s1',s2',-⟩:=Qe h0 hj hpos hc hb
  have A1:=fun u => K4 (p:=p) (s:=s) u hj hb hc s1 s2 ge g1'
  have A2:=fun u => K4 (p:=p) (s:=s) u hj hc hb s1' s2' ge' g1
  have S1:=fun u => L7 hp h0 u hj hpos hb hc s1 s2
  have S2:=fun u => L7 hp h0 u hj hpos hc hb s1' s2'
  refine ⟨(if eqZ (useOf p s (j:Int) (b:Int)) 0 = true then false else if eqZ (useOf p s (j:Int) (c:Int)) 0 = true then false else if leZ (addZ .i64 e n) x' = true then false else notB (leZ (addZ .i64 e' n') x)),fun u => ?_,fun u => ?_⟩
  ·unfold Bn M7
   simp only [z1,z2,z3,z4,z5,if_true,Bool.false_eq_true,if_false,Ab,gm,gm',gu j hj,gu' j hj]
   rcases tf (eqZ (useOf p s (j:Int) (b:Int)) 0) with h1 | h1 <;> rcases tf (eqZ (useOf p s (j:Int) (c:Int)) 0) with h2 | h2 <;> rcases tf (leZ (addZ .i64 e n) x') with h3 | h3 <;> simp [notB,h1,h2,h3,gm',gu' j hj,A1,A2]
  ·unfold At Fx
   simp only [z1,z2,z3,z4,z5,if_true,Bool.false_eq_true,if_false,Ab,Wo,Mu,gm,gm',gu j hj,gu' j hj]
   rcases tf (eqZ (useOf p s (j:Int) (b:Int)) 0) with h1 | h1 <;> rcases tf (eqZ (useOf p s (j:Int) (c:Int)) 0) with h2 | h2 <;> rcases tf (leZ (addZ .i64 e n) x') with h3 | h3 <;> simp [notB,h1,h2,h3,gm',gu' j hj,ge,ge',g1,g1',S1,S2]
 ·have z1:eqZ 6 1 = false:=rfl
  have z2:eqZ 6 2 = false:=rfl
  have z3:eqZ 6 3 = false:=rfl
  have z4:eqZ 6 4 = false:=rfl
  have z5:eqZ 6 5 = false:=rfl
  refine ⟨ltZ p.2.2.2.2.1[k] (consV p s (k:Int)),fun u => ?_,fun u => ?_⟩
  ·unfold Bn
   simp only [z1,z2,z3,z4,z5,Bool.false_eq_true,if_false,Ab,Nb _ _ _ _ hp h hk,getI_lt hk]
  ·unfold At
   simp only [z1,z2,z3,z4,z5,Bool.false_eq_true,if_false,Ab,M1 _ _ _ _ hp h hk,getI_lt hk,Om]
/-- does a schedule break a rule? -/
def failB (p:Aa) (s:Ac) (r:D_Rule):Bool:=match Bn (p,s,r,()) () with | some b => b.1 | none => false
theorem Nx {p:Aa} {s:Ac} {r:D_Rule} (hp:Af 1099511627776 p) (h:formB p s = true) (hr:ruleIn p r) (u:Unit):At (p,s,r,u) () = some (notB (failB p s r),()):=by
 obtain ⟨b,e,e'⟩:=Zg hp h hr
 unfold failB
 simp only [e,e']
/-- the rules that a schedule breaks -/
def violL (p:Aa) (s:Ac):List D_Rule:=if formB p s = true then (ruleL p).filter (failB p s) else []
theorem Ok (p:Aa) (s:Ac) (u:Unit) (hp:Af 1099511627776 p):Gl (p,s,u) () = some (violL p s,()):=by
 unfold Gl violL
 simp only [Ho _ _ _ hp,Ab]
 rcases tf (formB p s) with h | h
 ·simp [h,notB]
 have h0:=Bc h
 obtain ⟨hl,hR⟩:=Xu hp h0
 have l0:=fun A:Type => (Ee (A:=A) (F:=D8) (fun i out => ((i:Int),((ruleL p).length:Int),ruleL p,p,s,out,())) (ruleL p) (fun i out => out.length <= i) (fun out r => if failB p s r = true then out ++ [r] else out) (fun out => Sum.inl (false,((ruleL p).length:Int),((ruleL p).length:Int),ruleL p,p,s,out,())) (by omega)
  (fun i out hi ho => by
   have ha:=add_one out (ruleL p)[i] (by omega)
   have hf:=fun u => Nx hp h (hR _ (List.getElem_mem hi)) u
   constructor
   ·unfold D8
    simp only [lt_yes hi,if_true,getI_lt hi,Ab,hf]
    rcases tf (failB p s (ruleL p)[i]) with h1 | h1 <;> simp [-Int.natCast_add,notB,h1,ha,idxN hi hl (show 400 <= 1099511627776 by omega)]
   ·rcases tf (failB p s (ruleL p)[i]) with h1 | h1 <;> simp [h1] <;> omega)
  (fun out ho => by
   unfold D8
   simp only [lt_no,Bool.false_eq_true,if_false])
  (a:=[]) (s:=(0,((ruleL p).length:Int),ruleL p,p,s,[],())) rfl (Nat.le_refl _)).1
 simp only [h,Ak,Bool.false_eq_true,if_false,if_true,To,Zk _ _ hp h0,Ab,lenI_eq,l0,foldl_filter,List.nil_append]
/-- is a schedule valid? -/
def okV (p:Aa) (s:Ac):Bool:=formB p s && eqZ (lenI (violL p s)) 0
theorem M5 (p:Aa) (s:Ac) (u:Unit) (hp:Af 1099511627776 p):Jb (p,s,u) () = some (okV p s,()):=by
 unfold Jb okV
 simp only [Ho _ _ _ hp,Ok _ _ _ hp,Ab]
 rcases tf (formB p s) with h | h <;> simp [h]
theorem Di {p:Aa} {s:Ac} (h:okV p s = true):formB p s = true:=by
 unfold okV at h
 rw [Bool.and_eq_true] at h
 exact h.1
open Go.Abs
set_option linter.unusedVariables false
set_option linter.unusedSimpArgs false
def endV (p:Aa) (s:Ac) (a:Int):Int:=match Cw (p,s,a,()) () with | some e => e.1 | none => 0
theorem endV_at {p:Aa} {s:Ac} (hp:Af 1099511627776 p) (h:formB p s = true) {i:Nat} (hi:i < p.2.1.length):(∀ u,Cw (p,s,(i:Int),u) () = some (endV p s (i:Int),())) /\ 1 <= endV p s (i:Int) /\ endV p s (i:Int) <= 72:=by
 obtain ⟨x,e,md,g1,ge,gm,he,h1,h2,h3,h4,-⟩:=run_at hp h hi
 have:endV p s (i:Int) = e:=by unfold endV; rw [ge]
 rw [this]
 refine ⟨ge,?_⟩
 rw [he,addZ64 (by omega) (by omega)]
 omega
/-- the end of the last activity -/
def spanV (p:Aa) (s:Ac):Int:=(iotaI p.2.1.length).foldl (fun m a => maxI m (endV p s a)) 0
theorem Ot (p:Aa) (s:Ac) (u:Unit) (hp:Af 1099511627776 p):Hm (p,s,u) () = some (if formB p s = true then spanV p s else -1,()):=by
 have hle:=hp.2.1.1
 unfold Hm
 simp only [Ho _ _ _ hp,Ab]
 rcases tf (formB p s) with h | h
 ·simp [h,notB]
 have l0:=fun A:Type => (B6 (A:=A) (F:=Ie) (fun i n => ((i:Int),(p.2.1.length:Int),p,s,n,())) p.2.1.length (fun _ _ => True) (fun i n => maxI n (endV p s (i:Int))) (fun n => Sum.inl (false,(p.2.1.length:Int),(p.2.1.length:Int),p,s,n,())) hle
  (fun i n hi _ => by
   obtain ⟨ge,-⟩:=endV_at hp h hi
   refine ⟨?_,trivial⟩
   unfold Ie
   simp only [lt_yes hi,if_true,Mu,ge,Ab,idxN hi hle (Nat.le_refl _)])
  (fun n _ => by
   unfold Ie
   simp only [lt_no,Bool.false_eq_true,if_false])
  (a:=0) trivial).1
 have e0:(((0:Nat):Int),(p.2.1.length:Int),p,s,(0:Int),()) = ((0:Int),(p.2.1.length:Int),p,s,(0:Int),()):=rfl
 rw [e0] at l0
 have e1:=Fw (fun (n x:Int) => maxI n (endV p s x)) p.2.1.length 0
 simp only [h,Ak,Bool.false_eq_true,if_false,if_true,lenI_eq,l0,Ab,e1,spanV]
open Go.Abs
set_option linter.unusedVariables false
set_option linter.unusedSimpArgs false
theorem K5 {σ B C E:Type} {F:σ -> Option (Out σ B C)} (emb:Nat -> List E -> σ) (n:Nat) (P:Nat -> List E -> Prop) (b:List E -> B) (hn:n <= 1099511627776)
  (hs:∀ i out,i < n -> P i out -> ∃ out',F (emb i out) = some (.norm (emb (i + 1) out')) /\ P (i + 1) out')
  (he:∀ out,F (emb n out) = some (.exit (b out))) {out:List E} {s:σ} (hs0:s = emb 0 out) (hP:P 0 out) :
  ∃ out',(∀ A:Type,loopN (A:=A) big F s = some (.exit (b out'))) /\ P n out':=by
 classical
 subst hs0
 let f:Nat -> List E -> List E:=fun i out => if h:i < n /\ P i out then Classical.choose (hs i out h.1 h.2) else out
 have key:=fun A:Type => B6 (A:=A) (F:=F) emb n P f b hn
  (fun i a hi hI => by
   have h:i < n /\ P i a:=⟨hi,hI⟩
   have e:f i a = Classical.choose (hs i a h.1 h.2):=dif_pos h
   rw [e]
   exact Classical.choose_spec (hs i a h.1 h.2))
  (fun a _ => he a) (a:=out) hP
 exact ⟨_,fun A => (key A).1,(key Unit).2⟩
theorem in_snoc {α:Type} {out:List α} {x r:α} (h:r ∈ out):r ∈ out ++ [x]:=List.mem_append_left _ h
theorem snoc_in {α:Type} {out:List α} {x:α}:x ∈ out ++ [x]:=List.mem_append_right _ (List.mem_singleton.2 rfl)
/-- the rule of a pair, of a capacity, of a stock -/
def pairR (j b c:Nat):D_Rule:=(5,(j:Int),(b:Int),(c:Int),())
def capR (j t:Nat):D_Rule:=(3,(j:Int),(t:Int),0,())
def stockR (k:Nat):D_Rule:=(6,(k:Int),0,0,())
theorem mem_L4 (p:Aa) (hp:Af 1099511627776 p) (h6:p.2.1.length <= 6) {j b:Nat} (nres:Int) (hj:j < p.2.2.2.1.length) (hb:b < p.2.1.length) (m:Nat) (hm:m <= 1000) (out:List D_Rule) (h0:out.length <= m) :
  ∃ out' i,(∀ A:Type,loopN (A:=A) big Av (((b + 1:Nat):Int),(b:Int),(b:Int),(p.2.1.length:Int),(j:Int),(j:Int),nres,p,out,()) = some (.exit (Sum.inl (false,i,(b:Int),(b:Int),(p.2.1.length:Int),(j:Int),(j:Int),nres,p,out',())))) /\ out'.length <= m + 6 /\ (∀ r ∈ out,r ∈ out') /\ (0 < p.2.2.2.1[j].2.1.length -> ∀ c,b < c -> c < p.2.1.length -> pairR j b c ∈ out'):=by
 rcases tf (machB p (j:Int)) with hM | hM
 ·have hz:¬ 0 < p.2.2.2.1[j].2.1.length:=fun h0 => by
   have:machB p (j:Int) = true:=by rw [Pv hp hj,ltZ_iff,lenI_eq]; omega
   rw [hM] at this; cases this
  obtain ⟨out',e,h1,h2⟩:=Kq (F:=Av) (fun i out => (((b + 1 + i:Nat):Int),(b:Int),(b:Int),(p.2.1.length:Int),(j:Int),(j:Int),nres,p,out,())) 0 (fun o => ∀ r ∈ out,r ∈ o) m 1
   (fun out => Sum.inl (false,((b + 1 + 0:Nat):Int),(b:Int),(b:Int),(p.2.1.length:Int),(j:Int),(j:Int),nres,p,out,())) (by omega)
   (fun i out hi => absurd hi (by omega))
   (fun out => by
    unfold Av
    simp only [lenI_eq,H5 _ _ _ hp,hM,Ab,Bool.false_eq_true,if_false]
    rcases tf (ltZ ((b + 1 + 0:Nat):Int) (p.2.1.length:Int)) with h | h <;> simp only [h,if_true,Bool.false_eq_true,if_false,Ab])
   (out:=out) rfl h0 (fun r hr => hr)
  exact ⟨out',_,e,by omega,h2,fun hh => absurd hh hz⟩
 ·have hpos:0 < p.2.2.2.1[j].2.1.length:=by
   rw [Pv hp hj,ltZ_iff,lenI_eq] at hM
   omega
  obtain ⟨out',e,h1,h2,h3⟩:=K5 (F:=Av) (fun i out => (((b + 1 + i:Nat):Int),(b:Int),(b:Int),(p.2.1.length:Int),(j:Int),(j:Int),nres,p,out,())) (p.2.1.length - (b + 1)) (fun i o => o.length <= m + i /\ (∀ r ∈ out,r ∈ o) /\ ∀ i',i' < i -> pairR j b (b + 1 + i') ∈ o)
   (fun out => Sum.inl (false,(p.2.1.length:Int),(b:Int),(b:Int),(p.2.1.length:Int),(j:Int),(j:Int),nres,p,out,())) (by omega)
   (fun i out hi hI => by
    obtain ⟨hl,hR,hN⟩:=hI
    have hk:b + 1 + i < p.2.1.length:=by omega
    refine ⟨out ++ [(5,(j:Int),(b:Int),((b + 1 + i:Nat):Int),())],?_,by simp; omega,fun r hr => in_snoc (hR r hr),fun i' hi' => ?_⟩
    ·unfold Av
     simp only [lenI_eq,lt_yes hk,if_true,H5 _ _ _ hp,hM,Ab,add_one out _ (by omega),idxN hk (show p.2.1.length <= 6 by omega) (by omega)]
     rfl
    ·by_cases e:i' = i
     ·subst e; exact snoc_in
     ·exact in_snoc (hN i' (by omega)))
   (fun out => by
    have e:b + 1 + (p.2.1.length - (b + 1)) = p.2.1.length:=by omega
    unfold Av
    simp only [e,lenI_eq,lt_no,Bool.false_eq_true,if_false,Ab])
   (out:=out) rfl ⟨by omega,fun r hr => hr,fun i' hi' => absurd hi' (by omega)⟩
  refine ⟨out',_,e,by omega,h2,fun _ c hc hc' => ?_⟩
  have:=h3 (c - (b + 1)) (by omega)
  have e2:b + 1 + (c - (b + 1)) = c:=by omega
  rw [e2] at this
  exact this
theorem mem_L5 (p:Aa) (hp:Af 1099511627776 p) (h6:p.2.1.length <= 6) {j:Nat} (nres:Int) (hj:j < p.2.2.2.1.length) (m:Nat) (hm:m <= 900) (out:List D_Rule) (h0:out.length <= m) :
  ∃ out',(∀ A:Type,loopN (A:=A) big Bd (0,(p.2.1.length:Int),(j:Int),(j:Int),nres,p,out,()) = some (.exit (Sum.inl (false,(p.2.1.length:Int),(p.2.1.length:Int),(j:Int),(j:Int),nres,p,out',())))) /\ out'.length <= m + 36 /\ (∀ r ∈ out,r ∈ out') /\ (0 < p.2.2.2.1[j].2.1.length -> ∀ b c,b < c -> c < p.2.1.length -> pairR j b c ∈ out'):=by
 obtain ⟨out',e,h1,h2,h3⟩:=K5 (F:=Bd) (fun i out => ((i:Int),(p.2.1.length:Int),(j:Int),(j:Int),nres,p,out,())) p.2.1.length (fun i o => o.length <= m + i * 6 /\ (∀ r ∈ out,r ∈ o) /\ (0 < p.2.2.2.1[j].2.1.length -> ∀ b c,b < i -> b < c -> c < p.2.1.length -> pairR j b c ∈ o))
  (fun out => Sum.inl (false,(p.2.1.length:Int),(p.2.1.length:Int),(j:Int),(j:Int),nres,p,out,())) (by omega)
  (fun i out hi hI => by
   obtain ⟨hl,hR,hN⟩:=hI
   obtain ⟨out',k,e,g1,g2,g3⟩:=mem_L4 p hp h6 nres hj hi (m + i * 6) (by omega) out hl
   refine ⟨out',?_,by omega,fun r hr => g2 r (hR r hr),fun hpos b c hb hc hc' => ?_⟩
   ·unfold Bd
    simp only [lt_yes hi,if_true,idxN hi (show p.2.1.length <= 6 by omega) (by omega),e,Ab]
   ·by_cases e:b = i
    ·subst e; exact g3 hpos c hc hc'
    ·exact g2 _ (hN hpos b c (by omega) hc hc'))
  (fun out => by
   unfold Bd
   simp only [lt_no,Bool.false_eq_true,if_false])
  (out:=out) rfl ⟨by omega,fun r hr => hr,fun _ b c hb => absurd hb (by omega)⟩
 exact ⟨out',e,by omega,h2,fun hpos b c hc hc' => h3 hpos b c (by omega) hc hc'⟩
theorem mem_L2 (p:Aa) {j:Nat} (nres:Int) (hj:j < p.2.2.2.1.length) (m:Nat) (hm:m <= 900) (out:List D_Rule) (h0:out.length <= m) :
  ∃ out',(∀ A:Type,loopN (A:=A) big Be (0,(j:Int),(j:Int),nres,p,out,()) = some (.exit (Sum.inl (false,((61:Nat):Int),(j:Int),(j:Int),nres,p,out',())))) /\ out'.length <= m + 61 /\ (∀ r ∈ out,r ∈ out') /\ ∀ t,t <= 60 -> capR j t ∈ out':=by
 obtain ⟨out',e,h1,h2,h3⟩:=K5 (F:=Be) (fun i out => ((i:Int),(j:Int),(j:Int),nres,p,out,())) 61 (fun i o => o.length <= m + i /\ (∀ r ∈ out,r ∈ o) /\ ∀ t,t < i -> capR j t ∈ o)
  (fun out => Sum.inl (false,((61:Nat):Int),(j:Int),(j:Int),nres,p,out,())) (by omega)
  (fun i out hi hI => by
   obtain ⟨hl,hR,hN⟩:=hI
   have ht:leZ (i:Int) 60 = true:=by rw [leZ_iff]; omega
   refine ⟨out ++ [(3,(j:Int),(i:Int),0,())],?_,by simp; omega,fun r hr => in_snoc (hR r hr),fun t h => ?_⟩
   ·unfold Be
    simp only [ht,if_true,add_one out _ (by omega),Ab,idxN hi (Nat.le_refl _) (show 61 <= 1099511627776 by omega)]
   ·by_cases e:t = i
    ·subst e; exact snoc_in
    ·exact in_snoc (hN t (by omega)))
  (fun out => by
   have ht:leZ ((61:Nat):Int) 60 = false:=rfl
   unfold Be
   simp only [ht,Bool.false_eq_true,if_false])
  (out:=out) rfl ⟨by omega,fun r hr => hr,fun t h => absurd h (by omega)⟩
 exact ⟨out',e,by omega,h2,fun t ht => h3 t (by omega)⟩
theorem Vx {p:Aa} (hp:Af 1099511627776 p) (h:projB p = true) :
  (∀ j t:Nat,j < p.2.2.2.1.length -> t <= 60 -> capR j t ∈ ruleL p) /\ (∀ (j b c:Nat) (hj:j < p.2.2.2.1.length),0 < p.2.2.2.1[j].2.1.length -> b < c -> c < p.2.1.length -> pairR j b c ∈ ruleL p) /\ ∀ k:Nat,k < p.2.2.2.2.1.length -> stockR k ∈ ruleL p:=by
 obtain ⟨-,h6⟩:=Me h
 obtain ⟨hr,hst,hk⟩:=Mb h
 have e0:=fun A:Type => (B6 (A:=A) (F:=Cc) (fun i out => ((i:Int),(p.2.2.1.length:Int),p,out,())) p.2.2.1.length (fun i out => out.length = i) (fun i out => out ++ [(1,(i:Int),0,0,())]) (fun out => Sum.inl (false,(p.2.2.1.length:Int),(p.2.2.1.length:Int),p,out,())) (by omega)
  (fun i out hi hl => by
   refine ⟨?_,by simp; omega⟩
   unfold Cc
   simp only [lt_yes hi,if_true,add_one out _ (by omega),Ab,idxN hi hk (show 12 <= 1099511627776 by omega)])
  (fun out _ => by
   unfold Cc
   simp only [lt_no,Bool.false_eq_true,if_false])
  (a:=[]) rfl)
 have n0:=(e0 Unit).2
 have e0':=fun A:Type => (e0 A).1
 clear e0
 generalize foldN (fun i (out:List D_Rule) => out ++ [(1,(i:Int),0,0,())]) p.2.2.1.length 0 [] = o0 at n0 e0'
 have e1:=fun A:Type => (B6 (A:=A) (F:=Cb) (fun i out => ((i:Int),(p.2.1.length:Int),p,out,())) p.2.1.length (fun i out => out.length <= 12 + i) (fun i out => out ++ [(2,(i:Int),0,0,())]) (fun out => Sum.inl (false,(p.2.1.length:Int),(p.2.1.length:Int),p,out,())) (by omega)
  (fun i out hi hl => by
   refine ⟨?_,by simp; omega⟩
   unfold Cb
   simp only [lt_yes hi,if_true,add_one out _ (by omega),Ab,idxN hi h6 (show 6 <= 1099511627776 by omega)])
  (fun out _ => by
   unfold Cb
   simp only [lt_no,Bool.false_eq_true,if_false])
  (a:=o0) (by omega))
 have n1:=(e1 Unit).2
 have e1':=fun A:Type => (e1 A).1
 clear e1
 generalize foldN (fun i (out:List D_Rule) => out ++ [(2,(i:Int),0,0,())]) p.2.1.length 0 o0 = o1 at n1 e1'
 obtain ⟨o3,e3,l3,P3⟩:=K5 (F:=Bs) (fun i out => ((i:Int),(p.2.2.2.1.length:Int),p,out,())) p.2.2.2.1.length (fun i o => o.length <= 18 + i * 61 /\ ∀ j t,j < i -> t <= 60 -> capR j t ∈ o)
  (fun out => Sum.inl (false,(p.2.2.2.1.length:Int),(p.2.2.2.1.length:Int),p,out,())) (by omega)
  (fun i out hi hI => by
   obtain ⟨hl,hN⟩:=hI
   obtain ⟨out',e,g1,g2,g3⟩:=mem_L2 p (p.2.2.2.1.length:Int) hi (18 + i * 61) (by omega) out hl
   refine ⟨out',?_,by omega,fun j t hj ht => ?_⟩
   ·unfold Bs
    simp only [lt_yes hi,if_true,e,Ab,idxN hi hr (show 3 <= 1099511627776 by omega)]
   ·by_cases e:j = i
    ·subst e; exact g3 t ht
    ·exact g2 _ (hN j t (by omega) ht))
  (fun out => by
   unfold Bs
   simp only [lt_no,Bool.false_eq_true,if_false])
  (out:=o1) rfl ⟨by omega,fun j t hj => absurd hj (by omega)⟩
 obtain ⟨o6,e6,l6,P6,Q6⟩:=K5 (F:=Bx) (fun i out => ((i:Int),(p.2.2.2.1.length:Int),p,out,())) p.2.2.2.1.length (fun i o => o.length <= 201 + i * 36 /\ (∀ r ∈ o3,r ∈ o) /\ ∀ (j b c:Nat) (hj:j < p.2.2.2.1.length),j < i -> 0 < p.2.2.2.1[j].2.1.length -> b < c -> c < p.2.1.length -> pairR j b c ∈ o)
  (fun out => Sum.inl (false,(p.2.2.2.1.length:Int),(p.2.2.2.1.length:Int),p,out,())) (by omega)
  (fun i out hi hI => by
   obtain ⟨hl,hR,hN⟩:=hI
   obtain ⟨out',e,g1,g2,g3⟩:=mem_L5 p hp h6 (p.2.2.2.1.length:Int) hi (201 + i * 36) (by omega) out hl
   refine ⟨out',?_,by omega,fun r hr => g2 r (hR r hr),fun j b c hj hji hpos hc hc' => ?_⟩
   ·unfold Bx
    simp only [lt_yes hi,if_true,lenI_eq,e,Ab,idxN hi hr (show 3 <= 1099511627776 by omega)]
   ·by_cases e:j = i
    ·subst e; exact g3 hpos b c hc hc'
    ·exact g2 _ (hN j b c hj (by omega) hpos hc hc'))
  (fun out => by
   unfold Bx
   simp only [lt_no,Bool.false_eq_true,if_false])
  (out:=o3) rfl ⟨by omega,fun r hr => hr,fun j b c hj hji => absurd hji (by omega)⟩
 obtain ⟨o7,e7,l7,P7,Q7⟩:=K5 (F:=B9) (fun i out => ((i:Int),(p.2.2.2.2.1.length:Int),out,())) p.2.2.2.2.1.length (fun i o => o.length <= 309 + i /\ (∀ r ∈ o6,r ∈ o) /\ ∀ k,k < i -> stockR k ∈ o)
  (fun out => Sum.inl (false,(p.2.2.2.2.1.length:Int),(p.2.2.2.2.1.length:Int),out,())) (by omega)
  (fun i out hi hI => by
   obtain ⟨hl,hR,hN⟩:=hI
   refine ⟨out ++ [(6,(i:Int),0,0,())],?_,by simp; omega,fun r hr => in_snoc (hR r hr),fun k hk => ?_⟩
   ·unfold B9
    simp only [lt_yes hi,if_true,add_one out _ (by omega),Ab,idxN hi hst (show 2 <= 1099511627776 by omega)]
   ·by_cases e:k = i
    ·subst e; exact snoc_in
    ·exact in_snoc (hN k (by omega)))
  (fun out => by
   unfold B9
   simp only [lt_no,Bool.false_eq_true,if_false])
  (out:=o6) rfl ⟨by omega,fun r hr => hr,fun k hk => absurd hk (by omega)⟩
 have hL:ruleL p = o7:=by
  have z:((0:Nat):Int) = 0:=rfl
  simp only [z] at e0' e1' e3 e6 e7
  have:D5 (p,()) () = some (o7,()):=by
   unfold D5
   simp only [lenI_eq,e0',e1',e3,e6,e7,Ab]
  unfold ruleL
  rw [this]
 rw [hL]
 exact ⟨fun j t hj ht => P7 _ (P6 _ (P3 j t hj ht)),fun j b c hj hpos hc hc' => P7 _ (Q6 j b c hj hj hpos hc hc'),Q7⟩
theorem ok_rule {p:Aa} {s:Ac} (h:okV p s = true) {r:D_Rule} (hr:r ∈ ruleL p):failB p s r = false:=by
 have hf:=Di h
 unfold okV violL at h
 rw [if_pos hf,Bool.and_eq_true] at h
 have h2:=h.2
 rw [eqZ_dec,decide_eq_true_eq,lenI_eq] at h2
 have h3:(ruleL p).filter (failB p s) = []:=List.eq_nil_of_length_eq_zero (by omega)
 rw [List.filter_eq_nil_iff] at h3
 exact Bool.eq_false_iff.2 (h3 r hr)
open Go.Abs
set_option linter.unusedVariables false
set_option linter.unusedSimpArgs false
/-- a schedule with a start and a mode for each activity -/
structure Shape (p:Aa) (s:Ac):Prop where
 ok:projB p = true
 l1:s.1.length = p.2.1.length
 l2:s.2.1.length = p.2.1.length
 md:∀ i,(hi:i < p.2.1.length) -> ∃ (m:Nat) (md:D_Mode),getI s.2.1 (i:Int) = some (m:Int) /\ getI p.2.1[i].2.2.1 (m:Int) = some md
theorem add_nil (l:List Int) (h:l.length <= 1000000):addI [] l = some l:=by
 have:=addI_ok (x:=([]:List Int)) (y:=l) (by rw [room_eq]; simp; omega)
 simpa using this
end Go.Proofs.YteggmejnpcfalaaGreat
