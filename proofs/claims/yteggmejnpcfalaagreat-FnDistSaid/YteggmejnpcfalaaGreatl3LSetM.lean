/-
  Plain laws: numbers in a row, lists that hold a number, sets, domains (several small texts in one). Condition: no list is longer than 2 to the 40.
-/
import Derived.Test.YteggmejnpcfalaaGreatl3LProjM
import Derived.Test.YteggmejnpcfalaaGreatN36
namespace Go.Proofs.YteggmejnpcfalaaGreat
open Go.Abs
set_option linter.unusedVariables false
set_option linter.unusedSimpArgs false
def hasB (l:List Int) (n:Int):Bool:=l.any fun x => eqZ x n
theorem Ac0 (x y:Int):eqZ x y = eqZ y x:=by
 rw [eqZ_dec,eqZ_dec]
 congr 1
 exact propext ⟨Eq.symm,Eq.symm⟩
theorem Aca {E:Type} (q:E -> Bool) (l:List E):(l.all fun x => notB (q x)) = notB (l.any q):=by
 induction l with
 | nil => rfl
 | cons x l ih =>
  simp only [List.all_cons,List.any_cons,ih]
  cases q x <;> simp [notB]
theorem Xq (l:List Int) (n:Int) (u:Unit) (hl:l.length <= 1099511627776):N6 (l,n,u) () = some (hasB l n,()):=by
 have l0:=fun A:Type => allS (A:=A) (F:=Jx) (fun i => ((i:Int),(l.length:Int),l,n,())) (0,(l.length:Int),l,n,()) l (fun x => notB (eqZ x n)) (Sum.inl (false,(l.length:Int),(l.length:Int),l,n,())) (true,()) rfl hl
  (fun i hi => by
   unfold Jx
   simp only [lt_yes hi,if_true,getI_lt hi,Ab,idxN hi hl (Nat.le_refl _)]
   cases eqZ l[i] n <;> rfl)
  (by unfold Jx; simp only [lt_no,Bool.false_eq_true,if_false])
 unfold N6 hasB
 simp only [lenI_eq,l0,Aca]
 cases l.any (fun x => eqZ x n) <;> rfl
theorem My (l:List Int) (n:Int) (u:Unit) (hl:l.length <= 1099511627776):Ip (l,n,u) () = some (hasB l n,()):=by
 have l0:=fun A:Type => findS (A:=A) (F:=Da) (fun i => ((i:Int),(l.length:Int),n,l,())) (0,(l.length:Int),n,l,()) l (fun x => eqZ x n) (Sum.inl (false,(l.length:Int),(l.length:Int),n,l,())) (fun i => ((i:Int),())) rfl hl
  (fun i hi => by
   unfold Da
   simp only [lt_yes hi,if_true,getI_lt hi,Ab,idxN hi hl (Nat.le_refl _),Ac0 n]
   cases eqZ l[i] n <;> rfl)
  (by unfold Da; simp only [lt_no,Bool.false_eq_true,if_false])
 have e:Eo (l,n,()) () = some (idxOf (fun x => eqZ x n) l,()):=by
  unfold Eo idxOf
  simp only [lenI_eq,l0]
  cases l.findIdx? (fun x => eqZ x n) <;> rfl
 unfold Ip Ax hasB
 simp only [e,Ab,Qz]
open Go.Abs
set_option linter.unusedVariables false
set_option linter.unusedSimpArgs false
/-- a set lies in another -/
def subB (a b:List Int):Bool:=a.all (hasB b)
theorem R8 (a b:List Int) (u:Unit) (ha:a.length <= 1099511627776) (hb:b.length <= 1099511627776):J7 (a,b,u) () = some (subB a b,()):=by
 have l0:=fun A:Type => allS (A:=A) (F:=Hp) (fun i => ((i:Int),(a.length:Int),a,b,())) (0,(a.length:Int),a,b,()) a (hasB b) (Sum.inl (false,(a.length:Int),(a.length:Int),a,b,())) (false,()) rfl ha
  (fun i hi => by
   unfold Hp
   simp only [lt_yes hi,if_true,getI_lt hi,Ab,My _ _ _ hb,idxN hi ha (Nat.le_refl _)]
   cases hasB b a[i] <;> rfl)
  (by unfold Hp; simp only [lt_no,Bool.false_eq_true,if_false])
 unfold J7 subB
 simp only [lenI_eq,l0]
 cases a.all (hasB b) <;> rfl
/-- a list in order, nothing twice -/
def ordI (l:List Int):Nat -> Bool
 | 0 => true
 | j + 1 => match l[j]?,l[j + 1]? with | some x,some y => notB (leZ y x) | _,_ => true
def setB (l:List Int):Bool:=(List.range l.length).all (ordI l)
theorem Adt (q:Nat -> Bool) (n:Nat):(List.range (n + 1)).all q = (q 0 && (List.range n).all fun i => q (i + 1)):=by
 rw [List.range_succ_eq_map,List.all_cons,List.all_map]
 rfl
theorem Z5 (l:List Int) (u:Unit) (hl:l.length <= 1099511627776):Nq (l,u) () = some (setB l,()):=by
 have l0:=fun A:Type => allIS (A:=A) (F:=Kx) (fun i => (((i + 1:Nat):Int),l,())) (1,l,()) (l.length - 1) (fun i => ordI l (i + 1)) (Sum.inl (false,((l.length - 1 + 1:Nat):Int),l,())) (false,()) rfl (by omega)
  (fun i hi => by
   have hi1:i + 1 < l.length:=by omega
   have hj:i < l.length:=by omega
   unfold Kx
   simp only [lenI_eq,lt_yes hi1,if_true,P8 i (by omega),getI_lt hj,getI_lt hi1,Ab,ordI,List.getElem?_eq_getElem hj,List.getElem?_eq_getElem hi1,idxN hi1 hl (Nat.le_refl _)]
   cases leZ l[i + 1] l[i] <;> rfl)
  (by
   have e:ltZ ((l.length - 1 + 1:Nat):Int) (l.length:Int) = false:=by rw [Bool.eq_false_iff,Ne,ltZ_iff]; omega
   unfold Kx
   simp only [lenI_eq,e,Bool.false_eq_true,if_false])
 have hs:setB l = (List.range (l.length - 1)).all fun i => ordI l (i + 1):=by
  unfold setB
  by_cases h0:l.length = 0
  ·rw [h0]; rfl
  ·obtain ⟨n,hn⟩:∃ n,l.length = n + 1:=⟨l.length - 1,by omega⟩
   rw [hn,Adt]
   simp [ordI]
 unfold Nq
 simp only [l0,hs]
 cases (List.range (l.length - 1)).all (fun i => ordI l (i + 1)) <;> rfl
theorem Zi (n:Nat) (u:Unit) (hn:n <= 200):G6 ((n:Int),u) () = some (iotaI n,()):=by
 unfold G6
 have hw:inB (n:Int) 0 200 = true:=inB_iff.2 ⟨by omega,by omega⟩
 simp only [Bi,Ab,hw,Ak,Bool.false_eq_true,if_false]
 have l0:=fun A:Type => (B6 (A:=A) (F:=Cv) (fun i out => ((i:Int),(n:Int),out,())) n (fun i out => out.length = i) (fun i out => out ++ [(i:Int)]) (fun out => Sum.inl (false,(n:Int),(n:Int),out,())) (by omega)
  (fun i out hi ho => by
   have ha:addI out [(i:Int)] = some (out ++ [(i:Int)]):=addI_ok (by rw [room_eq]; simp; omega)
   constructor
   ·unfold Cv
    simp only [lt_yes hi,if_true,ha,Ab,idxN hi (show n <= 1099511627776 by omega) (Nat.le_refl _)]
   ·simp [ho])
  (fun out ho => by
   unfold Cv
   simp only [lt_no,Bool.false_eq_true,if_false])
  (a:=[]) rfl).1
 have e0:(((0:Nat):Int),(n:Int),([]:List Int),()) = ((0:Int),(n:Int),([]:List Int),()):=rfl
 rw [e0] at l0
 have e1:=Fw (fun (out:List Int) (x:Int) => out ++ [x]) n []
 simp only [l0,Ab,e1,foldl_append,List.nil_append]
theorem Z0:Fj = G6:=rfl
open Go.Abs
set_option linter.unusedVariables false
set_option linter.unusedSimpArgs false
/-- the best so far, if there is one -/
def durStep (c:Int -> Int -> Bool) (s:Bool × Int) (m:D_Mode):Bool × Int:=if (notB s.1 || c m.1 s.2) = true then (true,m.1) else s
def choF (a:Ad) (ms:List Int) (i:Nat) (out:List D_Mode):List D_Mode:=match a.2.2.1[i]? with | some m => if hasB ms (i:Int) = true then out ++ [m] else out | none => out
/-- the modes that are left -/
def choL (a:Ad) (ms:List Int):List D_Mode:=foldN (choF a ms) a.2.2.1.length 0 []
def durV (c:Int -> Int -> Bool) (a:Ad) (ms:List Int):Int:=((choL a ms).foldl (durStep c) (false,0)).2
theorem Uo (a:Ad) (ms:List Int):(choL a ms).length <= a.2.2.1.length:=by
 have:∀ (k i:Nat) (out:List D_Mode),(foldN (choF a ms) k i out).length <= out.length + k:=by
  intro k
  induction k with
  | zero => intro i out; exact Nat.le_refl _
  | succ k ih =>
   intro i out
   simp only [foldN]
   refine Nat.le_trans (ih _ _) ?_
   have:(choF a ms i out).length <= out.length + 1:=by
    unfold choF
    cases a.2.2.1[i]? with
    | none => simp
    | some m => simp only; split <;> simp
   omega
 have:=this a.2.2.1.length 0 []
 rw [List.length_nil,Nat.zero_add] at this
 exact this
theorem Q0 (a:Ad) (ms:List Int) (u:Unit) (ha:a.2.2.1.length <= 1000000) (hm:ms.length <= 1099511627776):Jv (a,ms,u) () = some (choL a ms,()):=by
 have l0:=fun A:Type => (B6 (A:=A) (F:=J1) (fun i out => ((i:Int),(a.2.2.1.length:Int),a.2.2.1,ms,out,())) a.2.2.1.length (fun i out => out.length <= i) (choF a ms) (fun out => Sum.inl (false,(a.2.2.1.length:Int),(a.2.2.1.length:Int),a.2.2.1,ms,out,())) (by omega)
  (fun i out hi ho => by
   unfold choF
   rw [List.getElem?_eq_getElem hi]
   have ha':addI out [a.2.2.1[i]] = some (out ++ [a.2.2.1[i]]):=addI_ok (by rw [room_eq]; simp; omega)
   constructor
   ·unfold J1
    simp only [lt_yes hi,if_true,getI_lt hi,Ab,My _ _ _ hm]
    rcases tf (hasB ms (i:Int)) with h | h <;> simp [-Int.natCast_add,h,ha',idxN hi (show a.2.2.1.length <= 1099511627776 by omega) (Nat.le_refl _)]
   ·simp only
    split
    ·simp; omega
    ·omega)
  (fun out ho => by
   unfold J1
   simp only [lt_no,Bool.false_eq_true,if_false])
  (a:=[]) (Nat.le_refl _)).1
 have e0:(((0:Nat):Int),(a.2.2.1.length:Int),a.2.2.1,ms,([]:List D_Mode),()) = ((0:Int),(a.2.2.1.length:Int),a.2.2.1,ms,([]:List D_Mode),()):=rfl
 rw [e0] at l0
 unfold Jv choL
 simp only [lenI_eq,l0,Ab]
theorem Aay {c:Int -> Int -> Bool} {s:Bool × Int} {m:D_Mode}:(durStep c s m).1 = true:=by
 obtain ⟨f,n⟩:=s
 unfold durStep
 cases f <;> cases h:c m.1 n <;> simp [notB,h]
theorem Ib (a:Ad) (ms:List Int) (u:Unit) (ha:a.2.2.1.length <= 1000000) (hm:ms.length <= 1099511627776):D4 (a,ms,u) () = some (durV (fun x n => ltZ x n) a ms,()):=by
 have hcl:=Uo a ms
 have l0:=fun A:Type => (Ee (A:=A) (F:=Fn) (fun i (s:Bool × Int) => ((i:Int),((choL a ms).length:Int),choL a ms,s.2,())) (choL a ms) (fun i s => notB s.1 = eqZ (i:Int) 0) (durStep fun x n => ltZ x n) (fun s => Sum.inl (false,((choL a ms).length:Int),((choL a ms).length:Int),choL a ms,s.2,())) (by omega)
  (fun i s hi hs => by
   refine ⟨?_,?_⟩
   ·unfold Fn
    simp only [lt_yes hi,if_true,getI_lt hi,Ab,<- hs]
    obtain ⟨f,n⟩:=s
    unfold durStep
    simp only
    rcases tf (notB f) with h | h <;> rcases tf (ltZ (choL a ms)[i].1 n) with h' | h' <;> simp [-Int.natCast_add,h,h',idxN hi (show (choL a ms).length <= 1099511627776 by omega) (Nat.le_refl _)]
   ·rw [Aay,Ak]
    exact (eqZ_ne (by omega)).symm)
  (fun s hs => by
   unfold Fn
   simp only [lt_no,Bool.false_eq_true,if_false])
  (a:=(false,0)) (s:=(0,((choL a ms).length:Int),choL a ms,0,())) rfl rfl).1
 unfold D4 durV
 simp only [Q0 _ _ _ ha hm,Ab,lenI_eq,l0]
open Go.Abs
set_option linter.unusedVariables false
set_option linter.unusedSimpArgs false
theorem I1 (a:Ad) (u:Unit) (h:a.2.2.1.length <= 200):Cd (a,u) () = some (iotaI a.2.2.1.length,()):=by
 unfold Cd
 simp only [lenI_eq,Z0,Zi _ _ h,Ab]
open Go.Abs
set_option linter.unusedVariables false
set_option linter.unusedSimpArgs false
theorem addNilR {α:Type} (x:List α) (h:x.length <= 1048576):addI [] x = some x:=by
 rw [addI_ok (by rw [room_eq]; simp; omega)]
 rfl
theorem addOneR {α:Type} (x:List α) (y:α) (h:x.length <= 1048576):addI x [y] = some (x ++ [y]):=addI_ok (by rw [room_eq]; simp; omega)
theorem Z3 {p:Aa} (h:projB p = true):p.2.1.length <= 6 /\ ∀ i (hi:i < p.2.1.length),1 <= p.2.1[i].2.2.1.length /\ p.2.1[i].2.2.1.length <= 3:=by
 unfold projB at h
 simp only [Bool.and_eq_true] at h
 refine ⟨?_,fun i hi => ?_⟩
 ·have:=inB_iff.1 h.1.1.1.1.1.1.1.2
  rw [lenI_eq] at this
  omega
 ·have h1:=h.1.1.1.2
  rw [List.all_eq_true] at h1
  have h2:=h1 i (by simpa using hi)
  unfold actI at h2
  rw [List.getElem?_eq_getElem hi] at h2
  simp only [Bool.and_eq_true] at h2
  have h3:=h2.1
  unfold actB at h3
  simp only [Bool.and_eq_true] at h3
  have:=inB_iff.1 h3.2.2
  omega
theorem Adx (n:Nat) (u:Unit) (hn:n <= 200):G6 ((n:Int),u) () = some (iotaI n,()):=by
 unfold G6
 have hw:inB (n:Int) 0 200 = true:=inB_iff.2 ⟨by omega,by omega⟩
 simp only [Bi,Ab,hw,Ak,Bool.false_eq_true,if_false]
 have l0:=fun A:Type => (B6 (A:=A) (F:=Cv) (fun i out => ((i:Int),(n:Int),out,())) n (fun i out => out.length = i) (fun i out => out ++ [(i:Int)]) (fun out => Sum.inl (false,(n:Int),(n:Int),out,())) (by omega)
  (fun i out hi ho => by
   have ha:addI out [(i:Int)] = some (out ++ [(i:Int)]):=addI_ok (by rw [room_eq]; simp; omega)
   constructor
   ·unfold Cv
    simp only [lt_yes hi,if_true,ha,Ab,idxN hi (show n <= 1099511627776 by omega) (Nat.le_refl _)]
   ·simp [ho])
  (fun out ho => by
   unfold Cv
   simp only [lt_no,Bool.false_eq_true,if_false])
  (a:=[]) rfl).1
 have e0:(((0:Nat):Int),(n:Int),([]:List Int),()) = ((0:Int),(n:Int),([]:List Int),()):=rfl
 rw [e0] at l0
 have e1:=Fw (fun (out:List Int) (x:Int) => out ++ [x]) n []
 simp only [l0,Ab,e1,foldl_append,List.nil_append]
open Go.Abs
set_option linter.unusedVariables false
set_option linter.unusedSimpArgs false
end Go.Proofs.YteggmejnpcfalaaGreat
