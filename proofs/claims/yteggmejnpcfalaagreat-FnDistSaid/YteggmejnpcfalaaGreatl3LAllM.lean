/-
  Plain laws: numbers in a row, lists that hold a number, sets, domains (several small texts in one). Condition: no list is longer than 2 to the 40.
-/
import Derived.Test.YteggmejnpcfalaaGreatl3LProjM
import Derived.Test.YteggmejnpcfalaaGreatl3LRunM
namespace Go.Proofs.YteggmejnpcfalaaGreat
open Go.Abs
set_option linter.unusedVariables false
set_option linter.unusedSimpArgs false
theorem Mm {α β:Type} (f:α -> β):∀ (l:List α) (out:List β),l.foldl (fun out x => out ++ [f x]) out = out ++ l.map f
 | [],out => by simp
 | x :: l,out => by
  simp only [List.foldl_cons,List.map_cons]
  rw [Mm f l]
  simp
theorem Nm {α β:Type} (f:α -> List β):∀ (l:List α) (out:List β),l.foldl (fun out x => out ++ f x) out = out ++ l.flatMap f
 | [],out => by simp
 | x :: l,out => by
  simp only [List.foldl_cons,List.flatMap_cons]
  rw [Nm f l]
  simp
theorem addNil {α:Type} (x:List α) (h:x.length <= 1048576):addI [] x = some x:=by
 rw [addI_ok (by rw [room_eq]; simp; omega)]
 rfl
theorem addOne {α:Type} (x:List α) (y:α) (h:x.length <= 1048576):addI x [y] = some (x ++ [y]):=addI_ok (by rw [room_eq]; simp; omega)
/-- every list with every number behind it -/
def moreL (k:Nat) (l:List Int):List (List Int):=(iotaI k).map fun m => l ++ [m]
def stepL (k:Nat) (out:List (List Int)):List (List Int):=out.flatMap (moreL k)
def listsOf (acts:List Ad):List (List Int):=acts.foldl (fun out a => stepL a.2.2.1.length out) [[]]
theorem M0 (k:Nat) (l:List Int):(moreL k l).length = k:=by simp [moreL,B0]
theorem Kn (k:Nat):∀ (out:List (List Int)),(stepL k out).length = out.length * k
 | [] => by simp [stepL]
 | x :: out => by
  have:=Kn k out
  unfold stepL at this ⊢
  simp only [List.flatMap_cons,List.length_append,M0,this,List.length_cons,Nat.succ_mul]
  omega
theorem Abn {k i:Nat} {out:List (List Int)} (h:∀ l ∈ out,l.length <= i):∀ l ∈ stepL k out,l.length <= i + 1:=by
 intro l hl
 unfold stepL moreL at hl
 simp only [List.mem_flatMap,List.mem_map] at hl
 obtain ⟨l0,h0,m,-,rfl⟩:=hl
 have:=h l0 h0
 simp
 omega
theorem Z9 (acts:List Ad) (hn:acts.length <= 6) (hk:∀ a ∈ acts,a.2.2.1.length <= 3) :
  (∀ A:Type,loopN (A:=A) big Cz (0,lenI acts,acts,[[]],()) = some (.exit (Sum.inl (false,lenI acts,lenI acts,acts,listsOf acts,())))) /\ (listsOf acts).length <= 729 /\ ∀ l ∈ listsOf acts,l.length <= 6:=by
 have hpow:∀ i,i <= 6 -> 3 ^ i <= 729:=fun i hi => Nat.le_trans (Nat.pow_le_pow_right (by omega) hi) (by decide)
 have l2:=fun A:Type => Ee (A:=A) (F:=Cz) (fun i out => ((i:Int),lenI acts,acts,out,())) acts (fun i out => out.length <= 3 ^ i /\ ∀ l ∈ out,l.length <= i) (fun out a => stepL a.2.2.1.length out) (fun out => Sum.inl (false,lenI acts,lenI acts,acts,out,())) (by omega)
  (fun i out hi ho => by
   obtain ⟨ho1,ho2⟩:=ho
   have ha:=hk _ (List.getElem_mem hi)
   have ho3:out.length <= 729:=Nat.le_trans ho1 (hpow i (by omega))
   have hlt:ltZ (i:Int) (lenI acts) = true:=lt_yes hi
   refine ⟨?_,?_,Abn ho2⟩
   ·have l1:=fun A:Type => (Ee (A:=A) (F:=E3) (fun j nxt => ((j:Int),lenI out,out,acts[i],nxt,(i:Int),lenI acts,acts,())) out (fun j nxt => nxt.length = j * acts[i].2.2.1.length) (fun nxt l => nxt ++ moreL acts[i].2.2.1.length l) (fun nxt => Sum.inl (false,lenI out,lenI out,out,acts[i],nxt,(i:Int),lenI acts,acts,())) (by omega)
     (fun j nxt hj hx => by
      have hl:=ho2 _ (List.getElem_mem hj)
      have hx3:nxt.length <= 2187:=by
       have:=Nat.mul_le_mul (show j <= 729 by omega) ha
       omega
      have hlt:ltZ (j:Int) (lenI out) = true:=lt_yes hj
      refine ⟨?_,by rw [List.length_append,M0,hx,Nat.succ_mul]⟩
      have l0:=fun A:Type => (B6 (A:=A) (F:=E1) (fun m nxt => ((m:Int),lenI acts[i].2.2.1,out[j],(j:Int),lenI out,out,acts[i],nxt,(i:Int),lenI acts,acts,())) acts[i].2.2.1.length (fun m y => y.length = nxt.length + m) (fun m y => y ++ [out[j] ++ [(m:Int)]]) (fun y => Sum.inl (false,lenI acts[i].2.2.1,lenI acts[i].2.2.1,out[j],(j:Int),lenI out,out,acts[i],y,(i:Int),lenI acts,acts,())) (by omega)
       (fun m y hm hy => by
        have hlt:ltZ (m:Int) (lenI acts[i].2.2.1) = true:=lt_yes hm
        have hcl:∀ u,Am (out[j],u) () = some (out[j],()):=fun u => by
         unfold Am
         simp only [addNil out[j] (by omega),Ab]
        refine ⟨?_,by simp [hy]; omega⟩
        unfold E1
        simp only [hlt,if_true,hcl,addOne out[j] _ (by omega),addOne y _ (show y.length <= 1048576 by omega),Ab,idxN hm (show acts[i].2.2.1.length <= 1099511627776 by omega) (Nat.le_refl _)])
       (fun y hy => by
        have hlt:ltZ (acts[i].2.2.1.length:Int) (lenI acts[i].2.2.1) = false:=lt_no _
        unfold E1
        simp only [hlt,Bool.false_eq_true,if_false]
        rfl)
       (a:=nxt) rfl).1
      have e0:(((0:Nat):Int),lenI acts[i].2.2.1,out[j],(j:Int),lenI out,out,acts[i],nxt,(i:Int),lenI acts,acts,()) = ((0:Int),lenI acts[i].2.2.1,out[j],(j:Int),lenI out,out,acts[i],nxt,(i:Int),lenI acts,acts,()):=rfl
      rw [e0] at l0
      have e1:=Fw (fun (y:List (List Int)) (x:Int) => y ++ [out[j] ++ [x]]) acts[i].2.2.1.length nxt
      unfold E3
      simp only [hlt,if_true,getI_lt hj,Ab,l0,e1,Mm,idxN hj (show out.length <= 1099511627776 by omega) (Nat.le_refl _)]
      rfl)
     (fun nxt hx => by
      have hlt:ltZ (out.length:Int) (lenI out) = false:=lt_no _
      unfold E3
      simp only [hlt,Bool.false_eq_true,if_false]
      rfl)
     (a:=[]) (s:=(0,lenI out,out,acts[i],[],(i:Int),lenI acts,acts,())) rfl (by simp)).1
    unfold Cz
    simp only [hlt,if_true,getI_lt hi,Ab,l1,Nm,List.nil_append,idxN hi (show acts.length <= 1099511627776 by omega) (Nat.le_refl _)]
    rfl
   ·rw [Kn,Nat.pow_succ]
    exact Nat.mul_le_mul ho1 ha)
  (fun out ho => by
   have hlt:ltZ (acts.length:Int) (lenI acts) = false:=lt_no _
   unfold Cz
   simp only [hlt,Bool.false_eq_true,if_false]
   rfl)
  (a:=[[]]) (s:=(0,lenI acts,acts,[[]],())) rfl ⟨by simp,by simp⟩
 refine ⟨fun A => (l2 A).1,Nat.le_trans (l2 Unit).2.1 (hpow _ hn),fun l hl => Nat.le_trans ((l2 Unit).2.2 l hl) hn⟩
def allV (p:Aa):List (List Int):=if projB p = true then listsOf p.2.1 else []
theorem Sh {p:Aa} (h:projB p = true):p.2.1.length <= 6 /\ ∀ a ∈ p.2.1,a.2.2.1.length <= 3:=by
 unfold projB at h
 simp only [Bool.and_eq_true] at h
 refine ⟨?_,fun a ha => ?_⟩
 ·have:=inB_iff.1 h.1.1.1.1.1.1.1.2
  rw [lenI_eq] at this
  omega
 ·obtain ⟨i,hi,rfl⟩:=List.mem_iff_getElem.1 ha
  have h1:=h.1.1.1.2
  rw [List.all_eq_true] at h1
  have h2:=h1 i (by simpa using hi)
  unfold actI at h2
  rw [List.getElem?_eq_getElem hi] at h2
  simp only [Bool.and_eq_true] at h2
  have h3:=h2.1
  unfold actB at h3
  simp only [Bool.and_eq_true] at h3
  have:=inB_iff.1 h3.2.2
  omega
theorem O8 (p:Aa) (u:Unit) (h:Af 1099511627776 p):Ha (p,u) () = some (allV p,()):=by
 unfold Ha allV
 simp only [Ay _ _ h,Ab]
 rcases tf (projB p) with h1 | h1
 ·simp [h1,notB]
 ·obtain ⟨k1,k2⟩:=Sh h1
  simp only [h1,Ak,Bool.false_eq_true,if_false,if_true,(Z9 p.2.1 k1 k2).1,Ab]
open Go.Abs
set_option linter.unusedVariables false
set_option linter.unusedSimpArgs false
theorem Ww {α β:Type} (f:α -> List β) (l:List α):l.foldl (fun out x => out ++ f x) [] = l.flatMap f:=by
 rw [Nm]
 rfl
/-- so many rounds -/
def startsV (n m:Nat):List (List Int):=foldN (fun _ out => stepL (m + 1) out) n 0 [[]]
theorem Ux {k i:Nat} {out:List (List Int)} (h:∀ l ∈ out,l.length = i):∀ l ∈ stepL k out,l.length = i + 1:=by
 intro l hl
 unfold stepL moreL at hl
 simp only [List.mem_flatMap,List.mem_map] at hl
 obtain ⟨l0,h0,m,-,rfl⟩:=hl
 have:=h l0 h0
 simp
 omega
theorem pow13 (i:Nat) (h:i <= 3):13 ^ i <= 2197:=Nat.le_trans (Nat.pow_le_pow_right (by omega) h) (by decide)
theorem Sr {m:Nat} (hm:m <= 12):∀ (k i:Nat) (out:List (List Int)),i + k <= 3 -> out.length <= 13 ^ i -> (∀ l ∈ out,l.length = i) -> (foldN (fun _ out => stepL (m + 1) out) k i out).length <= 13 ^ (i + k) /\ ∀ l ∈ foldN (fun _ out => stepL (m + 1) out) k i out,l.length = i + k
 | 0,i,out,_,h1,h2 => ⟨h1,h2⟩
 | k + 1,i,out,hk,h1,h2 => by
  simp only [foldN]
  have:=Sr hm k (i + 1) (stepL (m + 1) out) (by omega) (by
   rw [Kn,Nat.pow_succ]
   exact Nat.mul_le_mul h1 (by omega)) (Ux h2)
  rw [show i + 1 + k = i + (k + 1) by omega] at this
  exact this
theorem Zt {n m:Nat} (hn:n <= 3) (hm:m <= 12):(startsV n m).length <= 2197 /\ ∀ l ∈ startsV n m,l.length = n:=by
 have:=Sr hm n 0 [[]] (by omega) (by simp) (by simp)
 rw [Nat.zero_add] at this
 exact ⟨Nat.le_trans this.1 (pow13 n hn),this.2⟩
theorem Xd (n m:Nat) (u:Unit) (hn:n <= 3) (hm:m <= 12):Iw ((n:Int),(m:Int),u) () = some (startsV n m,()):=by
 have hm1:addZ .i64 (m:Int) 1 = ((m + 1:Nat):Int):=by rw [addZ64 (by omega) (by omega)]; omega
 have l2:=fun A:Type => (B6 (A:=A) (F:=F8) (fun i out => ((i:Int),(n:Int),(m:Int),out,())) n (fun i out => out.length <= 13 ^ i /\ ∀ l ∈ out,l.length = i) (fun _ out => stepL (m + 1) out) (fun out => Sum.inl (false,(n:Int),(n:Int),(m:Int),out,())) (by omega)
  (fun i out hi ho => by
   obtain ⟨ho1,ho2⟩:=ho
   have ho3:out.length <= 2197:=Nat.le_trans ho1 (pow13 i (by omega))
   refine ⟨?_,?_,Ux ho2⟩
   ·have l1:=fun A:Type => (Ee (A:=A) (F:=Gb) (fun j nxt => ((j:Int),(out.length:Int),out,nxt,(i:Int),(n:Int),(m:Int),())) out (fun j nxt => nxt.length = j * (m + 1)) (fun nxt l => nxt ++ moreL (m + 1) l) (fun nxt => Sum.inl (false,(out.length:Int),(out.length:Int),out,nxt,(i:Int),(n:Int),(m:Int),())) (by omega)
     (fun j nxt hj hx => by
      have hl:=ho2 _ (List.getElem_mem hj)
      have hx3:nxt.length <= 30000:=by
       have:=Nat.mul_le_mul (show j <= 2197 by omega) (show m + 1 <= 13 by omega)
       omega
      refine ⟨?_,by rw [List.length_append,M0,hx,Nat.succ_mul]⟩
      have l0:=fun A:Type => (B6 (A:=A) (F:=Gc) (fun t nxt => ((t:Int),((m + 1:Nat):Int),out[j],(j:Int),(out.length:Int),out,nxt,(i:Int),(n:Int),(m:Int),())) (m + 1) (fun t y => y.length = nxt.length + t) (fun t y => y ++ [out[j] ++ [(t:Int)]]) (fun y => Sum.inl (false,((m + 1:Nat):Int),((m + 1:Nat):Int),out[j],(j:Int),(out.length:Int),out,y,(i:Int),(n:Int),(m:Int),())) (by omega)
       (fun t y ht hy => by
        refine ⟨?_,by simp [hy]; omega⟩
        unfold Gc Am
        simp only [lt_yes ht,if_true,addNil out[j] (by omega),addOne out[j] _ (by omega),addOne y _ (show y.length <= 1048576 by omega),Ab,idxN ht (Nat.le_refl _) (show m + 1 <= 1099511627776 by omega)])
       (fun y hy => by
        unfold Gc
        simp only [lt_no,Bool.false_eq_true,if_false])
       (a:=nxt) rfl).1
      have e0:(((0:Nat):Int),((m + 1:Nat):Int),out[j],(j:Int),(out.length:Int),out,nxt,(i:Int),(n:Int),(m:Int),()) = ((0:Int),((m + 1:Nat):Int),out[j],(j:Int),(out.length:Int),out,nxt,(i:Int),(n:Int),(m:Int),()):=rfl
      rw [e0] at l0
      have e1:=Fw (fun (y:List (List Int)) (x:Int) => y ++ [out[j] ++ [x]]) (m + 1) nxt
      unfold Gb
      simp only [lt_yes hj,if_true,getI_lt hj,Ab,hm1,l0,e1,Mm,idxN hj (show out.length <= 1099511627776 by omega) (Nat.le_refl _)]
      rfl)
     (fun nxt hx => by
      unfold Gb
      simp only [lt_no,Bool.false_eq_true,if_false])
     (a:=[]) (s:=(0,(out.length:Int),out,[],(i:Int),(n:Int),(m:Int),())) rfl (by simp)).1
    unfold F8
    simp only [lt_yes hi,if_true,lenI_eq,l1,Ab,Ww,idxN hi (Nat.le_refl _) (show n <= 1099511627776 by omega)]
    rfl
   ·rw [Kn,Nat.pow_succ]
    exact Nat.mul_le_mul ho1 (by omega))
  (fun out ho => by
   unfold F8
   simp only [lt_no,Bool.false_eq_true,if_false])
  (a:=[[]]) ⟨by simp,by simp⟩).1
 have e0:(((0:Nat):Int),(n:Int),(m:Int),([[]]:List (List Int)),()) = ((0:Int),(n:Int),(m:Int),([[]]:List (List Int)),()):=rfl
 rw [e0] at l2
 unfold Iw startsV
 simp only [l2,Ab]
/-- a list of modes that the activities have -/
def modesOk (acts:List Ad) (l:List Int):Prop:=l.length = acts.length /\ ∀ i (h:i < acts.length),∃ m:Nat,l[i]? = some (m:Int) /\ m < acts[i].2.2.1.length
theorem Vr:∀ (rest pre:List Ad) (out:List (List Int)),(∀ l ∈ out,modesOk pre l) -> ∀ l ∈ rest.foldl (fun out a => stepL a.2.2.1.length out) out,modesOk (pre ++ rest) l
 | [],pre,out,h,l,hl => by rw [List.append_nil]; exact h l hl
 | a :: rest,pre,out,h,l,hl => by
  rw [List.foldl_cons] at hl
  have:=Vr rest (pre ++ [a]) (stepL a.2.2.1.length out) (fun l hl => by
   unfold stepL moreL at hl
   simp only [List.mem_flatMap,List.mem_map] at hl
   obtain ⟨l0,h0,x,hx,rfl⟩:=hl
   obtain ⟨m,rfl,hm⟩:=H3 hx
   obtain ⟨e1,e2⟩:=h l0 h0
   refine ⟨by simp [e1],fun i hi => ?_⟩
   by_cases hip:i < pre.length
   ·obtain ⟨m',g1,g2⟩:=e2 i hip
    refine ⟨m',by rw [List.getElem?_append_left (by omega)]; exact g1,?_⟩
    rw [List.getElem_append_left hip]; exact g2
   ·have hip':i = pre.length:=by simp at hi; omega
    subst hip'
    refine ⟨m,by rw [<- e1,List.getElem?_append_right (Nat.le_refl _)]; simp,?_⟩
    simpa using hm) l hl
  simpa using this
theorem Qv:∀ (acts:List Ad) (out:List (List Int)),(∀ a ∈ acts,a.2.2.1.length <= 3) -> (acts.foldl (fun out a => stepL a.2.2.1.length out) out).length <= out.length * 3 ^ acts.length
 | [],out,_ => by simp
 | a :: acts,out,h => by
  rw [List.foldl_cons]
  have h1:=Qv acts (stepL a.2.2.1.length out) fun b hb => h b (by simp [hb])
  rw [Kn] at h1
  refine Nat.le_trans h1 ?_
  rw [List.length_cons,Nat.pow_succ,Nat.mul_assoc]
  refine Nat.mul_le_mul_left _ ?_
  rw [Nat.mul_comm]
  exact Nat.mul_le_mul_left _ (h a (by simp))
theorem Y0 (acts:List Ad) (h3:acts.length <= 3) (h:∀ a ∈ acts,a.2.2.1.length <= 3):(listsOf acts).length <= 27 /\ ∀ l ∈ listsOf acts,modesOk acts l:=by
 refine ⟨?_,fun l hl => ?_⟩
 ·have:=Qv acts [[]] h
  have h27:3 ^ acts.length <= 27:=Nat.le_trans (Nat.pow_le_pow_right (by omega) h3) (by decide)
  unfold listsOf
  simp only [List.length_singleton,Nat.one_mul] at this
  omega
 ·have:=Vr acts [] [[]] (fun l hl => by
   rw [List.mem_singleton.1 hl]
   exact ⟨rfl,fun i hi => absurd hi (by simp)⟩) l hl
  simpa using this
open Go.Abs
set_option linter.unusedVariables false
set_option linter.unusedSimpArgs false
/-! lists of lists -/
/-- those of one list of modes -/
def oneS (p:Aa) (k:Nat) (l:List Int):List Ac:=((startsV p.2.1.length k).filter fun t => okV p (t,l,())).map fun t => (t,l,())
def allS (p:Aa) (k:Nat):List Ac:=(listsOf p.2.1).flatMap (oneS p k)
theorem Abr {p:Aa} {k:Nat} {s:Ac} (h:s ∈ allS p k):okV p s = true:=by
 unfold allS oneS at h
 obtain ⟨l,-,h⟩:=List.mem_flatMap.1 h
 obtain ⟨t,ht,rfl⟩:=List.mem_map.1 h
 exact (List.mem_filter.1 ht).2
theorem Su {α β:Type} (q:α -> Bool) (f:α -> β):∀ (l:List α) (out:List β),l.foldl (fun out x => if q x = true then out ++ [f x] else out) out = out ++ (l.filter q).map f
 | [],out => by simp
 | x :: l,out => by
  rw [List.foldl_cons,Su q f l]
  cases h:q x <;> simp [h]
open Go.Abs
set_option linter.unusedVariables false
set_option linter.unusedSimpArgs false
theorem Rn {p:Aa} (h:projB p = true) {t l:List Int} (ht:t.length = p.2.1.length) (hl:modesOk p.2.1 l):Shape p (t,l,()):=by
 refine ⟨h,ht,hl.1,fun i hi => ?_⟩
 obtain ⟨m,g1,g2⟩:=hl.2 i hi
 exact ⟨m,p.2.1[i].2.2.1[m],by rw [Ht]; exact g1,getI_lt g2⟩
theorem Aci (p:Aa) (k:Nat) (l:List Int):(oneS p k l).length <= (startsV p.2.1.length k).length:=by
 unfold oneS
 rw [List.length_map]
 exact List.length_filter_le _ _
theorem Lt (p:Aa) (k:Nat) (u:Unit) (hp:Af 1099511627776 p) (h:projB p = true) (hn3:p.2.1.length <= 3) (hk:k <= 12):Fc (p,(k:Int),u) () = some (allS p k,()) /\ (allS p k).length <= 60000:=by
 have h3:ltZ 3 (lenI p.2.1) = false:=by rw [Bool.eq_false_iff,Ne,ltZ_iff,lenI_eq]; omega
 have h12:inB (k:Int) 0 12 = true:=by rw [inB_iff]; omega
 obtain ⟨-,hmod⟩:=Sh h
 obtain ⟨ll,lm⟩:=Y0 p.2.1 hn3 hmod
 obtain ⟨sl,sm⟩:=Zt hn3 hk
 have eL:allV p = listsOf p.2.1:=by unfold allV; rw [if_pos h]
 have eI:=fun u => Xd p.2.1.length k u hn3 hk
 have hone:=fun l => Aci p k l
 unfold allS
 generalize hL:listsOf p.2.1 = L at ll lm eL
 have honeS:∀ l,oneS p k l = ((startsV p.2.1.length k).filter fun t => okV p (t,l,())).map fun t => (t,l,()):=fun l => rfl
 generalize hS:startsV p.2.1.length k = S at sl sm eI hone honeS
 have inner:∀ (l:List Int),modesOk p.2.1 l -> ∀ (i n:Int) (out:List Ac) (b:Nat),out.length <= b -> b <= 60000 -> ∀ A:Type,
   loopN (A:=A) big Cy (0,(S.length:Int),S,l,i,n,L,(k:Int),p,out,()) = some (.exit (Sum.inl (false,(S.length:Int),(S.length:Int),S,l,i,n,L,(k:Int),p,out ++ oneS p k l,()))):=by
  intro l hl i n out b hb hb6 A
  have l0:=(Ee (A:=A) (F:=Cy) (fun j out => ((j:Int),(S.length:Int),S,l,i,n,L,(k:Int),p,out,())) S (fun j (out:List Ac) => out.length <= b + j) (fun out t => if okV p (t,l,()) = true then out ++ [(t,l,())] else out)
   (fun out => Sum.inl (false,(S.length:Int),(S.length:Int),S,l,i,n,L,(k:Int),p,out,())) (by omega)
   (fun j out hj hI => by
    have hsh:Shape p (S[j],l,()):=Rn h (sm _ (List.getElem_mem hj)) hl
    have c1:S[j].length <= 1000000:=by rw [sm _ (List.getElem_mem hj)]; omega
    have c2:l.length <= 1000000:=by rw [hl.1]; omega
    have eci:∀ u,Er ((S[j],l,()),u) () = some ((S[j],l,()),()):=fun u => by
     unfold Er Am
     simp only [add_nil S[j] c1,add_nil l c2,Ab]
    refine ⟨?_,?_⟩
    ·unfold Cy
     rcases tf (okV p (S[j],l,())) with ho | ho
     ·simp only [lt_yes hj,if_true,getI_lt hj,Ab,M5 _ _ _ hp,ho,Bool.false_eq_true,if_false,idxN hj (show S.length <= 1099511627776 by omega) (Nat.le_refl _)]
     ·simp only [lt_yes hj,if_true,getI_lt hj,Ab,M5 _ _ _ hp,ho,eci,add_one out _ (show out.length <= 1000000 by omega),idxN hj (show S.length <= 1099511627776 by omega) (Nat.le_refl _)]
    ·split
     ·simp; omega
     ·omega)
   (fun out _ => by
    unfold Cy
    simp only [lt_no,Bool.false_eq_true,if_false])
   (a:=out) (s:=(0,(S.length:Int),S,l,i,n,L,(k:Int),p,out,())) rfl (by omega)).1
  rw [Su (fun t => okV p (t,l,())) (fun t => ((t,l,()):Ac)),<- honeS] at l0
  exact l0
 have l1:=fun A:Type => Ee (A:=A) (F:=Em) (fun j out => ((j:Int),(L.length:Int),L,(k:Int),p,out,())) L (fun j (out:List Ac) => out.length <= j * 2197) (fun out l => out ++ oneS p k l)
  (fun out => Sum.inl (false,(L.length:Int),(L.length:Int),L,(k:Int),p,out,())) (by omega)
  (fun j out hj hI => by
   have hb:j * 2197 <= 27 * 2197:=Nat.mul_le_mul_right _ (by omega)
   refine ⟨?_,?_⟩
   ·unfold Em
    simp only [lt_yes hj,if_true,getI_lt hj,Ab,lenI_eq,eI,inner L[j] (lm _ (List.getElem_mem hj)) (j:Int) (L.length:Int) out (j * 2197) hI (by omega),idxN hj (show L.length <= 1099511627776 by omega) (Nat.le_refl _)]
   ·have:=hone L[j]
    rw [List.length_append]
    omega)
  (fun out _ => by
   unfold Em
   simp only [lt_no,Bool.false_eq_true,if_false])
  (a:=[]) (s:=(0,(L.length:Int),L,(k:Int),p,[],())) rfl (by simp)
 rw [Nm (oneS p k) L [],List.nil_append] at l1
 refine ⟨?_,?_⟩
 ·unfold Fc
  simp only [Ay _ _ hp,h,h3,Bf,h12,Ak,Bool.false_eq_true,if_false,Ab,lenI_eq] at *
  simp only [O8 _ _ hp,eL,Ab,(l1 _).1,fin]
 ·have:=(l1 Unit).2
  have hb:L.length * 2197 <= 27 * 2197:=Nat.mul_le_mul_right _ (by omega)
  omega
end Go.Proofs.YteggmejnpcfalaaGreat
