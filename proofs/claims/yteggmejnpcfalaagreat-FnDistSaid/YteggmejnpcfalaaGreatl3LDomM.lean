/-
  Plain laws: numbers in a row, lists that hold a number, sets, domains (several small texts in one). Condition: no list is longer than 2 to the 40.
-/
import Derived.Test.YteggmejnpcfalaaGreatl3LProjM
import Derived.Test.YteggmejnpcfalaaGreatl3LSetM
namespace Go.Proofs.YteggmejnpcfalaaGreat
open Go.Abs
set_option linter.unusedVariables false
set_option linter.unusedSimpArgs false
theorem big_two:∃ n,big = n + 1 + 1:=⟨18446744073709551614,rfl⟩
theorem Z8 {σ A B C:Type} {F:σ -> Option (Out σ B C)} {s:σ} {b:B} (h:F s = some (.exit b)):loopN (A:=A) big F s = some (.exit b):=by
 obtain ⟨n,hn⟩:=big_two
 rw [hn]
 simp only [loopN,h]
 rfl
theorem cloneR (x:List Int) (u:Unit) (h:x.length <= 1048576):Am (x,u) () = some (x,()):=by
 unfold Am
 simp only [addNilR _ h,Ab]
def placeB {α:Type} (l:List α) (a:Int):Bool:=leZ 0 a && ltZ a (lenI l)
def hasV (b:Ae) (a:Int):Bool:=placeB b.1 a && placeB b.2.1 a && placeB b.2.2.1 a
def clampV (n:Int):Int:=minI (maxI n (-2)) 62
/-- a domain cut down by a literal -/
def restV (b:Ae) (l:Aao):Ae:=
 if hasV b l.2.1 = true then
  (if eqZ l.1 1 = true then (setI b.1 l.2.1 (fun x => maxI x (clampV l.2.2.1)),b.2.1,b.2.2.1,())
  else if eqZ l.1 2 = true then (b.1,setI b.2.1 l.2.1 (fun x => minI x (clampV l.2.2.1)),b.2.2.1,())
  else if eqZ l.1 3 = true then (b.1,b.2.1,setI b.2.2.1 l.2.1 (fun m => m.filter fun n => eqZ n (clampV l.2.2.1)),())
  else if eqZ l.1 4 = true then (b.1,b.2.1,setI b.2.2.1 l.2.1 (fun m => m.filter fun n => notB (eqZ n (clampV l.2.2.1))),())
  else b)
 else b
open Go.Abs
set_option linter.unusedVariables false
set_option linter.unusedSimpArgs false
theorem Aar (a:Ad) (u:Unit) (h:a.2.2.1.length <= 200):Ku (a,u) () = some (iotaI a.2.2.1.length,()):=by
 unfold Ku
 simp only [lenI_eq,Adx _ _ h,Ab]
def initD (p:Aa):Ae:=(p.2.1.map (fun _ => 0),p.2.1.map (fun _ => subZ .i64 p.1 1),p.2.1.map (fun a => iotaI a.2.2.1.length),())
def initG (x:Int) (d:Ae) (a:Ad):Ae:=(d.1 ++ [0],d.2.1 ++ [x],d.2.2.1 ++ [iotaI a.2.2.1.length],())
theorem Sy (x:Int):∀ (l:List Ad) (d:Ae),l.foldl (initG x) d = (d.1 ++ l.map (fun _ => 0),d.2.1 ++ l.map (fun _ => x),d.2.2.1 ++ l.map (fun a => iotaI a.2.2.1.length),())
 | [],d => by simp
 | a :: l,d => by
  rw [List.foldl_cons,Sy x l]
  simp [initG]
theorem init_L0:Kc = I2:=rfl
theorem Abe (p:Aa) (h:projB p = true) (A:Type):loopN (A:=A) big I2 (0,lenI p.2.1,p.2.1,p,([],[],[],()),([],[],[],()),()) = some (.exit (Sum.inl (false,lenI p.2.1,lenI p.2.1,p.2.1,p,initD p,([],[],[],()),()))):=by
 obtain ⟨hn,hm⟩:=Z3 h
 have l0:=(Ee (A:=A) (F:=I2) (fun i (d:Ae) => ((i:Int),lenI p.2.1,p.2.1,p,d,([],[],[],()),())) p.2.1 (fun i d => d.1.length = i /\ d.2.1.length = i /\ d.2.2.1.length = i) (initG (subZ .i64 p.1 1)) (fun d => Sum.inl (false,lenI p.2.1,lenI p.2.1,p.2.1,p,d,([],[],[],()),())) (by omega)
  (fun i d hi hI => by
   obtain ⟨h1,h2,h3⟩:=hI
   have hlt:ltZ (i:Int) (lenI p.2.1) = true:=lt_yes hi
   have hk:=hm i hi
   have k:=fun u => Aar p.2.1[i] u (by omega)
   refine ⟨?_,by simp [initG,h1],by simp [initG,h2],by simp [initG,h3]⟩
   unfold I2
   simp only [hlt,if_true,getI_lt hi,Ab,k,addOneR d.1 _ (show d.1.length <= 1048576 by omega),addOneR d.2.1 _ (show d.2.1.length <= 1048576 by omega),addOneR d.2.2.1 _ (show d.2.2.1.length <= 1048576 by omega),idxN hi (show p.2.1.length <= 1099511627776 by omega) (Nat.le_refl _)]
   rfl)
  (fun d _ => by
   have hlt:ltZ (p.2.1.length:Int) (lenI p.2.1) = false:=lt_no _
   unfold I2
   simp only [hlt,Bool.false_eq_true,if_false]
   rfl)
  (a:=([],[],[],())) (s:=(0,lenI p.2.1,p.2.1,p,([],[],[],()),([],[],[],()),())) rfl ⟨rfl,rfl,rfl⟩).1
 rw [Sy] at l0
 simpa [initD] using l0
def initV (p:Aa):Ae:=if projB p = true then initD p else ([],[],[],())
theorem Og (p:Aa) (u:Unit) (hp:Af 1099511627776 p):Ge (p,u) () = some (initV p,()):=by
 unfold Ge initV
 rcases tf (projB p) with h | h
 ·simp [Ay _ _ hp,h,notB]
 ·simp only [Ay _ _ hp,h,Ab,Ak,Bool.false_eq_true,if_false,if_true,init_L0,Abe p h]
open Go.Abs
set_option linter.unusedVariables false
set_option linter.unusedSimpArgs false
theorem Re {p:Aa} (h:projB p = true):p.2.1.length <= 6 /\ ∀ i (hi:i < p.2.1.length),1 <= p.2.1[i].2.2.1.length /\ p.2.1[i].2.2.1.length <= 3:=by
 unfold projB at h
 simp only [Bool.and_eq_true] at h
 refine ⟨?_,fun i hi => ?_⟩
 ·have:=inB_iff.1 h.1.1.1.1.1.1.1.2
  rw [lenI_eq] at this
  omega
 ·have h1:=h.1.1.1.2
  rw [List.all_eq_true] at h1
  have h2:=h1 i (by simpa using hi)
  unfold actI at h2
  rw [List.getElem?_eq_getElem hi] at h2
  simp only [Bool.and_eq_true] at h2
  have h3:=h2.1
  unfold actB at h3
  simp only [Bool.and_eq_true] at h3
  have:=inB_iff.1 h3.2.2
  omega
theorem len_eqB {α β:Type} {x:List α} {y:List β} (h:eqZ (lenI x) (lenI y) = true):x.length = y.length:=by
 rw [eqZ_dec,decide_eq_true_eq] at h
 exact Int.ofNat.inj h
def domI (p:Aa) (b:Ae) (i:Nat):Bool:=match p.2.1[i]?,b.1[i]?,b.2.1[i]?,b.2.2.1[i]? with
 | some a,some x,some y,some m => inB x (-2) 62 && inB y (-2) 62 && setB m && subB m (iotaI a.2.2.1.length)
 | _,_,_,_ => true
def domB (p:Aa) (b:Ae):Bool:=projB p && eqZ (lenI b.1) (lenI p.2.1) && eqZ (lenI b.2.1) (lenI p.2.1) && eqZ (lenI b.2.2.1) (lenI p.2.1) && (List.range p.2.1.length).all (domI p b)
theorem S5 (x:Int) (u:Unit):Ki (x,u) () = some (inB x (-2) 62,()):=by
 unfold Ki
 simp only [Bf,Ab]
theorem Ze (p:Aa) (b:Ae) (hp:Af 1099511627776 p) (hb:Le 1099511627776 b) (h:projB p = true) (e1:b.1.length = p.2.1.length) (e2:b.2.1.length = p.2.1.length) (e3:b.2.2.1.length = p.2.1.length) :
  ∀ A:Type,loopN (A:=A) big Ei (0,(p.2.1.length:Int),b.2.2.1,b,p,()) = some (if (List.range p.2.1.length).all (domI p b) = true then .exit (Sum.inl (false,(p.2.1.length:Int),(p.2.1.length:Int),b.2.2.1,b,p,())) else .ret (false,())):=by
 have ha:=hp.2.1.1
 obtain ⟨-,hm⟩:=Re h
 have hmod:∀ i (hi:i < b.2.2.1.length),b.2.2.1[i].length <= 1099511627776:=fun i hi => (hb.2.2.1.2 _ (List.getElem_mem hi)).1
 intro A
 refine allIS (A:=A) (F:=Ei) (fun i => ((i:Int),(p.2.1.length:Int),b.2.2.1,b,p,())) (0,(p.2.1.length:Int),b.2.2.1,b,p,()) p.2.1.length (domI p b) (Sum.inl (false,(p.2.1.length:Int),(p.2.1.length:Int),b.2.2.1,b,p,())) (false,()) rfl ha
  (fun i hi => ?_) (by unfold Ei; simp only [lt_no,Bool.false_eq_true,if_false])
 have h1:i < b.1.length:=by omega
 have h2:i < b.2.1.length:=by omega
 have h3:i < b.2.2.1.length:=by omega
 have hio:(iotaI p.2.1[i].2.2.1.length).length <= 1099511627776:=by rw [B0]; have:=(hm i hi).2; omega
 unfold Ei domI
 rw [List.getElem?_eq_getElem hi,List.getElem?_eq_getElem h1,List.getElem?_eq_getElem h2,List.getElem?_eq_getElem h3]
 have k1:=fun u => S5 b.1[i] u
 have k2:=fun u => S5 b.2.1[i] u
 have k3:=fun u => Z5 b.2.2.1[i] u (hmod i h3)
 have k4:=fun u => R8 b.2.2.1[i] (iotaI p.2.1[i].2.2.1.length) u (hmod i h3) hio
 have k5:=fun u => I1 p.2.1[i] u (by have:=(hm i hi).2; omega)
 simp only [lt_yes hi,if_true,getI_lt h3,getI_lt h1,Ab,k1,idxN hi ha (Nat.le_refl _)]
 rcases tf (inB b.1[i] (-2) 62) with q1 | q1
 ·simp [q1,notB]
 rcases tf (inB b.2.1[i] (-2) 62) with q2 | q2
 ·simp [q1,q2,k2,notB,getI_lt h2]
 rcases tf (setB b.2.2.1[i]) with q3 | q3
 ·simp [q1,q2,q3,k2,k3,notB,getI_lt h2]
 rcases tf (subB b.2.2.1[i] (iotaI p.2.1[i].2.2.1.length)) with q4 | q4
 ·simp [q1,q2,q3,q4,k2,k3,k4,k5,notB,getI_lt h2,getI_lt hi]
 ·simp [-Int.natCast_add,q1,q2,q3,q4,k2,k3,k4,k5,notB,getI_lt h2,getI_lt hi,idxN hi ha (Nat.le_refl _)]
theorem Qw (p:Aa) (b:Ae) (u:Unit) (hp:Af 1099511627776 p) (hb:Le 1099511627776 b):Iy (p,b,u) () = some (domB p b,()):=by
 unfold Iy domB
 simp only [Ay _ _ hp,Ab]
 rcases tf (projB p) with h | h
 ·simp [h,notB]
 rcases tf (eqZ (lenI b.1) (lenI p.2.1)) with h1 | h1
 ·simp [h,h1,notB]
 rcases tf (eqZ (lenI b.2.1) (lenI p.2.1)) with h2 | h2
 ·simp [h,h1,h2,notB]
 rcases tf (eqZ (lenI b.2.2.1) (lenI p.2.1)) with h3 | h3
 ·simp [h,h1,h2,h3,notB]
 have l0:=Ze p b hp hb h (len_eqB h1) (len_eqB h2) (len_eqB h3)
 simp only [h,h1,h2,h3,Ak,Bool.false_eq_true,if_false,Ab,Bool.and_self,Bool.true_and]
 simp only [lenI_eq,len_eqB h3,l0]
 cases (List.range p.2.1.length).all (domI p b) <;> rfl
/-- no start is left for the activity -/
def badI (b:Ae) (i:Nat):Bool:=match b.1[i]?,b.2.1[i]? with
 | some n,some m => ltZ m n
 | _,_ => false
def emptyB (b:Ae):Bool:=if (List.range b.1.length).all (fun i => notB (badI b i)) = true then b.2.2.1.any (fun l => eqZ (lenI l) 0) else true
theorem Ab0 (b:Ae) (hb:Le 1099511627776 b) (A:Type):loopN (A:=A) big Do (0,(b.1.length:Int),b.1,b,()) = some (if (List.range b.1.length).all (fun i => notB (badI b i)) = true then .exit (Sum.inl (false,(b.1.length:Int),(b.1.length:Int),b.1,b,())) else .ret (true,())):=by
 have hl:=hb.1.1
 refine allIS (A:=A) (F:=Do) (fun i => ((i:Int),(b.1.length:Int),b.1,b,())) (0,(b.1.length:Int),b.1,b,()) b.1.length (fun i => notB (badI b i)) (Sum.inl (false,(b.1.length:Int),(b.1.length:Int),b.1,b,())) (true,()) rfl hl
  (fun i hi => ?_) (by unfold Do; simp only [lt_no,Bool.false_eq_true,if_false])
 unfold Do badI
 rw [List.getElem?_eq_getElem hi]
 simp only [lt_yes hi,if_true,getI_lt hi,Ab,lenI_eq,idxN hi hl (Nat.le_refl _)]
 by_cases h:i < b.2.1.length
 ·rw [List.getElem?_eq_getElem h]
  simp only [lt_yes h,if_true,getI_lt h,Ab]
  rcases tf (ltZ b.2.1[i] b.1[i]) with q | q <;> simp [-Int.natCast_add,q,notB,idxN hi hl (Nat.le_refl _)]
 ·have e:ltZ (i:Int) (b.2.1.length:Int) = false:=by rw [Bool.eq_false_iff,Ne,ltZ_iff]; omega
  rw [List.getElem?_eq_none (by omega)]
  simp [-Int.natCast_add,e,notB,idxN hi hl (Nat.le_refl _)]
theorem R9 (l:List (List Int)) (f:(List Int × Unit) -> Option Bool) (q:List Int -> Bool) (u:Unit) (hl:l.length <= 1099511627776) (hf:∀ a ∈ l,f (a,()) = some (q a)):B7 (l,f,u) () = some (idxOf q l,()):=by
 unfold B7 idxOf
 simp only [lenI_eq]
 rw [findS (F:=Bq) (fun i => ((i:Int),(l.length:Int),f,l,())) (0,(l.length:Int),f,l,()) l q (Sum.inl (false,(l.length:Int),(l.length:Int),f,l,())) (fun i => ((i:Int),())) rfl hl
  (fun i hi => by
   unfold Bq
   simp only [lt_yes hi,if_true,getI_lt hi,Ab,hf _ (List.getElem_mem hi),idxN hi hl (Nat.le_refl _)]
   generalize q _ = r
   cases r <;> rfl)
  (by unfold Bq; simp only [lt_no,Bool.false_eq_true,if_false])]
 cases l.findIdx? q <;> rfl
theorem Pn (b:Ae) (u:Unit) (hb:Le 1099511627776 b):Id (b,u) () = some (emptyB b,()):=by
 have hl:=hb.2.2.1.1
 have e:Ld = Do:=rfl
 have l0:=Ab0 b hb
 unfold Id emptyB
 simp only [lenI_eq,e,l0,Ab]
 rcases tf ((List.range b.1.length).all fun i => notB (badI b i)) with h | h
 ·simp [h]
 ·simp only [h,if_true,Ab]
  unfold Dn
  rw [R9 b.2.2.1 _ (fun l => eqZ (l.length:Int) 0) () hl (fun a _ => by
   unfold Jk
   simp only [lenI_eq,Ab])]
  simp only [Ab,Qz]
/-- a domain of the right form that is not empty -/
def useB (p:Aa) (b:Ae):Bool:=domB p b && notB (emptyB b)
theorem N3 (p:Aa) (b:Ae) (u:Unit) (hp:Af 1099511627776 p) (hb:Le 1099511627776 b):Jh (p,b,u) () = some (useB p b,()):=by
 unfold Jh useB
 simp only [Qw _ _ _ hp hb,Pn _ _ hb,Ab]
 rcases tf (domB p b) with h | h <;> simp [h]
/-- what a domain of the right form has at a place -/
theorem dom_at {p:Aa} {b:Ae} (h:domB p b = true) {i:Nat} (hi:i < p.2.1.length) :
  ∃ (x y:Int) (m:List Int),getI b.1 (i:Int) = some x /\ getI b.2.1 (i:Int) = some y /\ getI b.2.2.1 (i:Int) = some m /\ m ∈ b.2.2.1 /\ -2 <= x /\ x <= 62 /\ -2 <= y /\ y <= 62 /\ setB m = true /\ subB m (iotaI p.2.1[i].2.2.1.length) = true:=by
 unfold domB at h
 simp only [Bool.and_eq_true] at h
 have h1:i < b.1.length:=by rw [len_eqB h.1.1.1.2]; exact hi
 have h2:i < b.2.1.length:=by rw [len_eqB h.1.1.2]; exact hi
 have h3:i < b.2.2.1.length:=by rw [len_eqB h.1.2]; exact hi
 have h4:=List.all_eq_true.1 h.2 i (by simpa using hi)
 unfold domI at h4
 rw [List.getElem?_eq_getElem hi,List.getElem?_eq_getElem h1,List.getElem?_eq_getElem h2,List.getElem?_eq_getElem h3] at h4
 simp only [Bool.and_eq_true] at h4
 have k1:=inB_iff.1 h4.1.1.1
 have k2:=inB_iff.1 h4.1.1.2
 exact ⟨_,_,_,getI_lt h1,getI_lt h2,getI_lt h3,List.getElem_mem h3,k1.1,k1.2,k2.1,k2.2,h4.1.2,h4.2⟩
theorem Li {p:Aa} {b:Ae} (h:domB p b = true):projB p = true:=by
 unfold domB at h
 simp only [Bool.and_eq_true] at h
 exact h.1.1.1.1
open Go.Abs
set_option linter.unusedVariables false
set_option linter.unusedSimpArgs false
def conI (b:Ae) (s:Ac) (i:Nat):Bool:=match b.1[i]?,b.2.1[i]?,b.2.2.1[i]?,s.1[i]?,s.2.1[i]? with
 | some x,some y,some ms,some t,some m => inB t x y && hasB ms m
 | _,_,_,_,_ => true
def conB (b:Ae) (s:Ac):Bool:=eqZ (lenI s.2.1) (lenI s.1) && eqZ (lenI b.1) (lenI s.1) && eqZ (lenI b.2.1) (lenI s.1) && eqZ (lenI b.2.2.1) (lenI s.1) && (List.range s.1.length).all (conI b s)
end Go.Proofs.YteggmejnpcfalaaGreat
