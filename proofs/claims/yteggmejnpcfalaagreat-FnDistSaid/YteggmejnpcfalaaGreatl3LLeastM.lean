/-
  Plain laws: numbers in a row, lists that hold a number, sets, domains (several small texts in one). Condition: no list is longer than 2 to the 40.
-/
import Derived.Test.YteggmejnpcfalaaGreatl3LProjM
import Derived.Test.YteggmejnpcfalaaGreatl3LSetM
namespace Go.Proofs.YteggmejnpcfalaaGreat
open Go.Abs
set_option linter.unusedVariables false
set_option linter.unusedSimpArgs false
theorem Te {p:Aa} (h:projB p = true):1 <= p.2.1.length /\ p.2.1.length <= 6:=by
 unfold projB at h
 simp only [Bool.and_eq_true] at h
 have:=inB_iff.1 h.1.1.1.1.1.1.1.2
 rw [lenI_eq] at this
 omega
theorem inB_atP {α:Type} {l:List α} (hl:l.length <= 1099511627776) {j:Nat} (hj:j < l.length):inB (j:Int) 0 (subZ .i64 (lenI l) 1) = true:=by
 rw [Oj _ hl,inB_iff]; omega
theorem Abq {p:Aa} (h:projB p = true) {j b c:Nat} (hj:j < p.2.2.2.1.length) (h0:0 < p.2.2.2.1[j].2.1.length) (hb:b < p.2.1.length) (hc:c < p.2.1.length) :
  ∃ row n,getI p.2.2.2.1[j].2.1 p.2.1[b].2.1 = some row /\ getI row p.2.1[c].2.1 = some n /\ 0 <= n /\ n <= 12:=by
 unfold projB at h
 simp only [Bool.and_eq_true] at h
 obtain ⟨⟨⟨⟨-,ha⟩,hr⟩,-⟩,-⟩:=h
 have fam:∀ {i:Nat} (hi:i < p.2.1.length),0 <= p.2.1[i].2.1 /\ p.2.1[i].2.1 <= 3:=fun {i} hi => by
  have:=List.all_eq_true.1 ha i (by simpa using hi)
  unfold actI at this
  rw [List.getElem?_eq_getElem hi] at this
  simp only [Bool.and_eq_true] at this
  have h2:=this.1
  unfold actB at h2
  simp only [Bool.and_eq_true] at h2
  exact inB_iff.1 h2.2.1.2
 have h1:=List.all_eq_true.1 hr _ (List.getElem_mem hj)
 unfold resrB at h1
 simp only [Bool.and_eq_true,Bool.or_eq_true,eqZ_dec,decide_eq_true_eq] at h1
 have h4:p.2.2.2.1[j].2.1.length = 4:=by
  rcases h1.2.2 with h | h <;> omega
 obtain ⟨f1,f2⟩:=fam hb
 obtain ⟨f3,f4⟩:=fam hc
 have e1:p.2.1[b].2.1 = ((p.2.1[b].2.1.toNat:Nat):Int):=by omega
 have e2:p.2.1[c].2.1 = ((p.2.1[c].2.1.toNat:Nat):Int):=by omega
 have l1:p.2.1[b].2.1.toNat < p.2.2.2.1[j].2.1.length:=by omega
 have hrow:=List.all_eq_true.1 h1.1 _ (List.getElem_mem l1)
 unfold rowB at hrow
 simp only [Bool.and_eq_true,eqZ_dec,decide_eq_true_eq] at hrow
 have l2:p.2.1[c].2.1.toNat < p.2.2.2.1[j].2.1[p.2.1[b].2.1.toNat].length:=by omega
 have hn:=inB_iff.1 (List.all_eq_true.1 hrow.2 _ (List.getElem_mem l2))
 exact ⟨p.2.2.2.1[j].2.1[p.2.1[b].2.1.toNat],p.2.2.2.1[j].2.1[p.2.1[b].2.1.toNat][p.2.1[c].2.1.toNat],(congrArg (getI _) e1).trans (getI_lt l1),(congrArg (getI _) e2).trans (getI_lt l2),hn.1,hn.2⟩
theorem M8 (p:Aa) (a:Int) (u:Unit):A8 (p,a,u) () = some (inB a 0 (subZ .i64 (lenI p.2.2.2.1) 1),()):=by
 unfold A8
 simp only [Bf,Ab]
theorem Iv:Df = Cn:=by
 funext x u
 obtain ⟨p,a,w⟩:=x
 unfold Df Cn
 simp only [M8,Bi]
/-- is the resource a machine? -/
def machBP (p:Aa) (a:Int):Bool:=if inB a 0 (subZ .i64 (lenI p.2.2.2.1) 1) = true then (match getI p.2.2.2.1 a with | some r => ltZ 0 (lenI r.2.1) | none => false) else false
theorem La (p:Aa) (a:Int) (u:Unit) (hp:Af 1099511627776 p):Cn (p,a,u) () = some (machBP p a,()):=by
 unfold Cn machBP
 simp only [Bi,Ab]
 rcases tf (inB a 0 (subZ .i64 (lenI p.2.2.2.1) 1)) with h | h
 ·simp [h]
 ·obtain ⟨j,rfl,hj⟩:=Ni hp.2.2.2.1.1 h
  simp [h,getI_lt hj]
theorem Q9 {p:Aa} (hp:Af 1099511627776 p) {j:Nat} (hj:j < p.2.2.2.1.length):machBP p (j:Int) = ltZ 0 (lenI p.2.2.2.1[j].2.1):=by
 have h:inB (j:Int) 0 (subZ .i64 (lenI p.2.2.2.1) 1) = true:=by
  rw [Oj _ hp.2.2.2.1.1,inB_iff]; omega
 unfold machBP
 rw [if_pos h,getI_lt hj]
theorem Oz {p:Aa} (hp:Af 1099511627776 p) (h:projB p = true) {j b c:Nat} {row:List Int} {n:Int} (u:Unit) (hj:j < p.2.2.2.1.length) (h0:0 < p.2.2.2.1[j].2.1.length) (hb:b < p.2.1.length) (hc:c < p.2.1.length)
  (h1:getI p.2.2.2.1[j].2.1 p.2.1[b].2.1 = some row) (h2:getI row p.2.1[c].2.1 = some n):Cp (p,(j:Int),(b:Int),(c:Int),u) () = some (n,()):=by
 have hM:machBP p (j:Int) = true:=by
  rw [Q9 hp hj,ltZ_iff,lenI_eq]; omega
 unfold Cp
 simp only [Iv,La _ _ _ hp,hM,Ak,Bool.false_eq_true,if_false,Ay _ _ hp,h,H0,inB_atP hp.2.1.1 hb,inB_atP hp.2.1.1 hc,Ab,getI_lt hj,getI_lt hb,getI_lt hc,h1,h2]
open Go.Abs
set_option linter.unusedVariables false
set_option linter.unusedSimpArgs false
def lstStep (val:D_Mode -> Int) (s:Bool × Int) (m:D_Mode):Bool × Int:=if (notB s.1 || ltZ (val m) s.2) = true then (true,val m) else s
def lstV (val:D_Mode -> Int) (a:Ad) (ms:List Int):Int:=((choL a ms).foldl (lstStep val) (false,0)).2
def lstF (val:D_Mode -> Int) (a:Ad) (ms:List Int) (i:Nat) (s:Bool × Int):Bool × Int:=match a.2.2.1[i]? with | some m => if hasB ms (i:Int) = true then lstStep val s m else s | none => s
theorem Yn (val:D_Mode -> Int) (a:Ad) (ms:List Int) (s0:Bool × Int):∀ (k i:Nat) (out:List D_Mode),foldN (lstF val a ms) k i (out.foldl (lstStep val) s0) = (foldN (choF a ms) k i out).foldl (lstStep val) s0
 | 0,_,_ => rfl
 | k + 1,i,out => by
  simp only [foldN]
  rw [<- Yn val a ms s0 k (i + 1)]
  congr 1
  unfold lstF choF
  cases a.2.2.1[i]? with
  | none => rfl
  | some m =>
   simp only
   split
   ·rw [List.foldl_append]; rfl
   ·rfl
theorem Adh {val:D_Mode -> Int} {s:Bool × Int} {m:D_Mode}:(lstStep val s m).1 = true:=by
 obtain ⟨f,n⟩:=s
 unfold lstStep
 cases f <;> cases h:ltZ (val m) n <;> simp [notB,h]
theorem Ov {a:Ad} {ms:List Int}:∀ m ∈ choL a ms,m ∈ a.2.2.1:=by
 have:∀ (k i:Nat) (out:List D_Mode),(∀ m ∈ out,m ∈ a.2.2.1) -> ∀ m ∈ foldN (choF a ms) k i out,m ∈ a.2.2.1:=by
  intro k
  induction k with
  | zero => intro i out h; exact h
  | succ k ih =>
   intro i out h
   refine ih (i + 1) _ fun m hm => ?_
   unfold choF at hm
   cases hx:a.2.2.1[i]? with
   | none => rw [hx] at hm; exact h m hm
   | some x =>
    rw [hx] at hm
    simp only at hm
    split at hm
    ·rcases List.mem_append.1 hm with hm | hm
     ·exact h m hm
     ·rw [List.mem_singleton.1 hm]; exact List.mem_of_getElem? hx
    ·exact h m hm
 exact this _ 0 [] (by simp)
theorem Pk (L:List D_Mode) (f:(D_Mode × Unit) -> Option (Int × Bool × Unit)) (val:D_Mode -> Int) (u:Unit) (hl:L.length <= 1000000) (hf:∀ m ∈ L,f (m,()) = some (val m,true,())):Kj (L,f,u) () = some ((L.foldl (lstStep val) (false,0)).2,()):=by
 have l0:=fun A:Type => (Ee (A:=A) (F:=I4) (fun i (s:Bool × Int) => ((i:Int),(L.length:Int),L,f,s.2,())) L (fun i s => notB s.1 = eqZ (i:Int) 0) (lstStep val) (fun s => Sum.inl (false,(L.length:Int),(L.length:Int),L,f,s.2,())) (by omega)
  (fun i s hi hs => by
   refine ⟨?_,?_⟩
   ·unfold I4
    simp only [lt_yes hi,if_true,getI_lt hi,Ab,hf _ (List.getElem_mem hi),Ak,Bool.false_eq_true,if_false,<- hs]
    obtain ⟨fl,n⟩:=s
    unfold lstStep
    simp only
    rcases tf (notB fl) with h | h <;> rcases tf (ltZ (val L[i]) n) with h' | h' <;> simp [-Int.natCast_add,h,h',idxN hi (show L.length <= 1099511627776 by omega) (Nat.le_refl _)]
   ·rw [Adh,Ak]
    exact (eqZ_ne (by omega)).symm)
  (fun s hs => by
   unfold I4
   simp only [lt_no,Bool.false_eq_true,if_false])
  (a:=(false,0)) (s:=(0,(L.length:Int),L,f,0,())) rfl rfl).1
 unfold Kj
 simp only [lenI_eq,l0,Ab]
/-- what a mode has at a place of what is taken -/
def atV (take:Bool) (k:Int) (m:D_Mode):Int:=(getI (if take = true then m.2.2.1 else m.2.1) k).getD 0
theorem Aac (a:Ad) (ms:List Int) (k:Int) (take:Bool) (u:Unit) (ha:a.2.2.1.length <= 1000000) (hm:ms.length <= 1099511627776)
  (hk:∀ m ∈ a.2.2.1,inB k 0 (subZ .i64 (lenI (if take = true then m.2.2.1 else m.2.1)) 1) = true /\ getI (if take = true then m.2.2.1 else m.2.1) k = some (atV take k m)):Mp (a,ms,k,take,false,u) () = some (lstV (atV take k) a ms,()):=by
 have l0:=fun A:Type => (B6 (A:=A) (F:=Il) (fun i (s:Bool × Int) => (s.1,(i:Int),(a.2.2.1.length:Int),a.2.2.1,ms,take,k,false,s.2,())) a.2.2.1.length (fun _ _ => True) (lstF (atV take k) a ms) (fun s => Sum.inl (false,s.1,(a.2.2.1.length:Int),(a.2.2.1.length:Int),a.2.2.1,ms,take,k,false,s.2,())) (by omega)
  (fun i s hi _ => by
   refine ⟨?_,trivial⟩
   obtain ⟨f,n⟩:=s
   have h9:=hk _ (List.getElem_mem hi)
   unfold Il lstF lstStep
   rw [List.getElem?_eq_getElem hi]
   simp only [lt_yes hi,if_true,getI_lt hi,Ab,Xq _ _ _ hm]
   generalize atV take k a.2.2.1[i] = v at *
   rcases tf take with rfl | rfl
   ·simp only [Bool.false_eq_true,if_false] at h9
    rcases tf (hasB ms (i:Int)) with h | h <;> rcases tf f with rfl | rfl <;> rcases tf (ltZ v n) with h2 | h2 <;> simp [-Int.natCast_add,Ak,Dj,Bi,h,h2,h9.1,h9.2,idxN hi (show a.2.2.1.length <= 1099511627776 by omega) (Nat.le_refl _)]
   ·simp only [if_true] at h9
    rcases tf (hasB ms (i:Int)) with h | h <;> rcases tf f with rfl | rfl <;> rcases tf (ltZ v n) with h2 | h2 <;> simp [-Int.natCast_add,Ak,Dj,Bi,h,h2,h9.1,h9.2,idxN hi (show a.2.2.1.length <= 1099511627776 by omega) (Nat.le_refl _)])
  (fun s _ => by
   unfold Il
   simp only [lt_no,Bool.false_eq_true,if_false])
  (a:=(false,0)) trivial).1
 have e0:(false,((0:Nat):Int),(a.2.2.1.length:Int),a.2.2.1,ms,take,k,false,(0:Int),()) = (false,(0:Int),(a.2.2.1.length:Int),a.2.2.1,ms,take,k,false,(0:Int),()):=rfl
 simp only [e0] at l0
 have e1:=Yn (atV take k) a ms (false,0) a.2.2.1.length 0 []
 simp only [List.foldl_nil] at e1
 unfold Mp lstV choL
 simp only [lenI_eq,l0,Ab,e1]
theorem Sf (l:List Int) (k:Int) (u:Unit) {v:Int} (h1:inB k 0 (subZ .i64 (lenI l) 1) = true) (h2:getI l k = some v):Kb (l,k,u) () = some ((v,true,()),()):=by
 unfold Kb
 simp only [Bf,h1,h2,Ab,Ak,Bool.false_eq_true,if_false]
theorem Ue (a:Ad) (ms:List Int) (k:Int) (ha:a.2.2.1.length <= 1000000) (hm:ms.length <= 1099511627776)
  (hk:∀ m ∈ a.2.2.1,inB k 0 (subZ .i64 (lenI m.2.1) 1) = true /\ getI m.2.1 k = some (atV false k m)):(∀ u,Oy (a,ms,k,u) () = some (lstV (atV false k) a ms,())) /\ ∀ u,Hh (a,ms,k,u) () = some (lstV (atV false k) a ms,()):=by
 have hcl:=Uo a ms
 have hL:=fun u => Aac a ms k false u ha hm (fun m hm => by simpa using hk m hm)
 have hO:=fun u => Pk (choL a ms) (fun v2 => (Option.bind (I3 v2 (k,())) fun v3 => (some v3.1))) (atV false k) u (by omega) (fun m hmc => by
  have:=hk m (Ov m hmc)
  unfold I3
  simp only [Sf _ _ _ this.1 this.2,Ab])
 refine ⟨fun u => ?_,fun u => ?_⟩
 ·unfold Oy
  simp only [hL,Ab]
 ·unfold Hh
  simp only [Q0 _ _ _ ha hm,Ab,hO]
  rfl
/-- what the modes of a valid project have -/
theorem Kw {p:Aa} (h:projB p = true) {i:Nat} (hi:i < p.2.1.length):∀ m ∈ p.2.1[i].2.2.1,1 <= m.1 /\ m.1 <= 12 /\ m.2.1.length = p.2.2.2.1.length /\ m.2.2.1.length = p.2.2.2.2.1.length /\ (∀ x ∈ m.2.1,0 <= x /\ x <= 20) /\ ∀ x ∈ m.2.2.1,0 <= x /\ x <= 20:=by
 unfold projB at h
 simp only [Bool.and_eq_true] at h
 have:=h.1.1.1.2
 rw [List.all_eq_true] at this
 have:=this i (by simpa using hi)
 unfold actI at this
 rw [List.getElem?_eq_getElem hi] at this
 simp only [Bool.and_eq_true] at this
 have h1:=this.1
 unfold actB at h1
 simp only [Bool.and_eq_true] at h1
 intro m hm
 have h2:=List.all_eq_true.1 h1.1 m hm
 unfold modeB at h2
 simp only [Bool.and_eq_true,eqZ_dec,decide_eq_true_eq,lenI_eq] at h2
 have h3:=inB_iff.1 h2.1.1
 refine ⟨h3.1,h3.2,by have:=h2.1.2.2; omega,by have:=h2.2.2; omega,fun x hx => inB_iff.1 (List.all_eq_true.1 h2.1.2.1 x hx),fun x hx => inB_iff.1 (List.all_eq_true.1 h2.2.1 x hx)⟩
theorem Of {p:Aa} (hp:Af 1099511627776 p) (h:projB p = true) {i j:Nat} (hi:i < p.2.1.length) (hj:j < p.2.2.2.1.length):∀ m ∈ p.2.1[i].2.2.1,inB (j:Int) 0 (subZ .i64 (lenI m.2.1) 1) = true /\ getI m.2.1 (j:Int) = some (atV false (j:Int) m) /\ 0 <= atV false (j:Int) m /\ atV false (j:Int) m <= 20:=fun m hm => by
 obtain ⟨-,-,h1,-,h2,-⟩:=Kw h hi m hm
 have hr:=hp.2.2.2.1.1
 have hj':j < m.2.1.length:=by omega
 have e:atV false (j:Int) m = m.2.1[j]:=by
  unfold atV
  simp only [Bool.false_eq_true,if_false,getI_lt hj',Option.getD_some]
 refine ⟨inB_atP (by omega) hj',by rw [e,getI_lt hj'],?_,?_⟩
 ·rw [e]; exact (h2 _ (List.getElem_mem hj')).1
 ·rw [e]; exact (h2 _ (List.getElem_mem hj')).2
theorem Yl {p:Aa} (h:projB p = true) {i:Nat} (hi:i < p.2.1.length):p.2.1[i].2.2.1.length <= 3:=by
 unfold projB at h
 simp only [Bool.and_eq_true] at h
 have:=h.1.1.1.2
 rw [List.all_eq_true] at this
 have:=this i (by simpa using hi)
 unfold actI at this
 rw [List.getElem?_eq_getElem hi] at this
 simp only [Bool.and_eq_true] at this
 have h1:=this.1
 unfold actB at h1
 simp only [Bool.and_eq_true] at h1
 have:=inB_iff.1 h1.2.2
 omega
open Go.Abs
set_option linter.unusedVariables false
set_option linter.unusedSimpArgs false
theorem lst_min (val:D_Mode -> Int):∀ (L:List D_Mode) (n:Int),(L.foldl (lstStep val) (true,n)).1 = true /\ (L.foldl (lstStep val) (true,n)).2 <= n /\ (∀ m ∈ L,(L.foldl (lstStep val) (true,n)).2 <= val m) /\ ((L.foldl (lstStep val) (true,n)).2 = n \/ ∃ m ∈ L,(L.foldl (lstStep val) (true,n)).2 = val m)
 | [],n => ⟨rfl,Int.le_refl _,fun m hm => absurd hm (by simp),.inl rfl⟩
 | x :: L,n => by
  rw [List.foldl_cons]
  have e:lstStep val (true,n) x = (true,if ltZ (val x) n = true then val x else n):=by
   unfold lstStep
   rcases tf (ltZ (val x) n) with h | h <;> simp [h,notB]
  rw [e]
  obtain ⟨h0,h1,h2,h3⟩:=lst_min val L (if ltZ (val x) n = true then val x else n)
  have hv:(if ltZ (val x) n = true then val x else n) <= n /\ (if ltZ (val x) n = true then val x else n) <= val x /\ ((if ltZ (val x) n = true then val x else n) = n \/ (if ltZ (val x) n = true then val x else n) = val x):=by
   split
   ·rename_i h; rw [ltZ_iff] at h; exact ⟨by omega,by omega,.inr rfl⟩
   ·rename_i h; rw [ltZ_iff] at h; exact ⟨by omega,by omega,.inl rfl⟩
  refine ⟨h0,by omega,fun m hm => ?_,?_⟩
  ·rcases List.mem_cons.1 hm with rfl | hm
   ·omega
   ·exact h2 m hm
  ·rcases h3 with h3 | ⟨m,hm,h3⟩
   ·rcases hv.2.2 with h4 | h4
    ·exact .inl (h3.trans h4)
    ·exact .inr ⟨x,by simp,h3.trans h4⟩
   ·exact .inr ⟨m,by simp [hm],h3⟩
theorem lst_all (val:D_Mode -> Int) (L:List D_Mode):(∀ m ∈ L,(L.foldl (lstStep val) (false,0)).2 <= val m) /\ ((L = [] /\ (L.foldl (lstStep val) (false,0)).2 = 0) \/ ∃ m ∈ L,(L.foldl (lstStep val) (false,0)).2 = val m):=by
 cases L with
 | nil => exact ⟨fun m hm => absurd hm (by simp),.inl ⟨rfl,rfl⟩⟩
 | cons x L =>
  have e:lstStep val (false,0) x = (true,val x):=rfl
  rw [List.foldl_cons,e]
  obtain ⟨-,h1,h2,h3⟩:=lst_min val L (val x)
  refine ⟨fun m hm => ?_,.inr ?_⟩
  ·rcases List.mem_cons.1 hm with rfl | hm
   ·exact h1
   ·exact h2 m hm
  ·rcases h3 with h3 | ⟨m,hm,h3⟩
   ·exact ⟨x,by simp,h3⟩
   ·exact ⟨m,by simp [hm],h3⟩
theorem Vu (a:Ad) (ms:List Int):∀ (k i:Nat) (out:List D_Mode) {m:D_Mode},m ∈ out -> m ∈ foldN (choF a ms) k i out
 | 0,_,_,_,h => h
 | k + 1,i,out,m,h => by
  refine Vu a ms k (i + 1) _ ?_
  unfold choF
  split
  ·split
   ·exact List.mem_append_left _ h
   ·exact h
  ·exact h
theorem Ye (a:Ad) (ms:List Int):∀ (k i:Nat) (out:List D_Mode) {j:Nat} (hj:j < a.2.2.1.length),i <= j -> j < i + k -> hasB ms (j:Int) = true -> a.2.2.1[j] ∈ foldN (choF a ms) k i out
 | 0,i,_,j,_,h1,h2,_ => absurd h2 (by omega)
 | k + 1,i,out,j,hj,h1,h2,hh => by
  by_cases e:i = j
  ·subst e
   refine Vu a ms k (i + 1) _ ?_
   unfold choF
   rw [List.getElem?_eq_getElem hj]
   simp [hh]
  ·exact Ye a ms k (i + 1) _ hj (by omega) (by omega) hh
theorem Ub {a:Ad} {ms:List Int} {j:Nat} (hj:j < a.2.2.1.length) (h:hasB ms (j:Int) = true):a.2.2.1[j] ∈ choL a ms:=Ye a ms _ 0 [] hj (by omega) (by omega) h
theorem lstV_le (val:D_Mode -> Int) {a:Ad} {ms:List Int} {j:Nat} (hj:j < a.2.2.1.length) (h:hasB ms (j:Int) = true):lstV val a ms <= val a.2.2.1[j]:=(lst_all val (choL a ms)).1 _ (Ub hj h)
theorem lstV_in (val:D_Mode -> Int) {a:Ad} {ms:List Int} {lo hi:Int} (h0:lo <= 0) (h1:0 <= hi) (h:∀ m ∈ a.2.2.1,lo <= val m /\ val m <= hi):lo <= lstV val a ms /\ lstV val a ms <= hi:=by
 unfold lstV
 rcases (lst_all val (choL a ms)).2 with ⟨-,e⟩ | ⟨m,hm,e⟩
 ·rw [e]; exact ⟨h0,h1⟩
 ·rw [e]; exact h m (Ov m hm)
/-- the least is one of them, if there is one -/
theorem X5 (val:D_Mode -> Int) {a:Ad} {ms:List Int} {j:Nat} (hj:j < a.2.2.1.length) (h:hasB ms (j:Int) = true):∃ m ∈ a.2.2.1,lstV val a ms = val m:=by
 unfold lstV
 rcases (lst_all val (choL a ms)).2 with ⟨e,-⟩ | ⟨m,hm,e⟩
 ·have:=Ub hj h
  rw [e] at this
  simp at this
 ·exact ⟨m,Ov m hm,e⟩
theorem dur_lst (a:Ad) (ms:List Int):durV (fun x n => ltZ x n) a ms = lstV (fun m => m.1) a ms:=rfl
end Go.Proofs.YteggmejnpcfalaaGreat
