/-
  Plain laws: numbers in a row, lists that hold a number, sets, domains (several small texts in one). Condition: no list is longer than 2 to the 40.
-/
import Derived.Test.YteggmejnpcfalaaGreatl4LProjM
import Derived.Test.YteggmejnpcfalaaGreatN36
namespace Go.Proofs.YteggmejnpcfalaaGreat
open Go.Abs
set_option linter.unusedVariables false
set_option linter.unusedSimpArgs false
theorem addNilR {α:Type} (x:List α) (h:x.length <= 1048576):addI [] x = some x:=by
 rw [addI_ok (by rw [room_eq]; simp; omega)]
 rfl
theorem addOneR {α:Type} (x:List α) (y:α) (h:x.length <= 1048576):addI x [y] = some (x ++ [y]):=addI_ok (by rw [room_eq]; simp; omega)
theorem rangeN_s (n:Nat) (u:Unit) (hn:n <= 200):spec_IntRange ((n:Int),u) () = some (iotaI n,()):=by
 unfold spec_IntRange
 have hw:inB (n:Int) 0 200 = true:=inB_iff.2 ⟨by omega,by omega⟩
 simp only [l01In_eq,some_bind',hw,notB_true,Bool.false_eq_true,if_false]
 have l0:=fun A:Type => (fold_loop (A:=A) (F:=spec_IntRange_L0) (fun i out => ((i:Int),(n:Int),out,())) n (fun i out => out.length = i) (fun i out => out ++ [(i:Int)]) (fun out => Sum.inl (false,(n:Int),(n:Int),out,())) (by omega)
  (fun i out hi ho => by
   have ha:addI out [(i:Int)] = some (out ++ [(i:Int)]):=addI_ok (by rw [room_eq]; simp; omega)
   constructor
   ·unfold spec_IntRange_L0
    simp only [lt_yes hi,if_true,ha,some_bind',idxN hi (show n <= 1099511627776 by omega) (Nat.le_refl _)]
   ·simp [ho])
  (fun out ho => by
   unfold spec_IntRange_L0
   simp only [lt_no,Bool.false_eq_true,if_false])
  (a:=[]) rfl).1
 have e0:(((0:Nat):Int),(n:Int),([]:List Int),()) = ((0:Int),(n:Int),([]:List Int),()):=rfl
 rw [e0] at l0
 have e1:=foldN_iota (fun (out:List Int) (x:Int) => out ++ [x]) n []
 simp only [l0,some_bind',e1,foldl_append,List.nil_append]
theorem rangeN_i:impl_IntRange = spec_IntRange:=rfl
open Go.Abs
set_option linter.unusedVariables false
set_option linter.unusedSimpArgs false
open Go.Abs
set_option linter.unusedVariables false
set_option linter.unusedSimpArgs false
def hasB (l:List Int) (n:Int):Bool:=l.any fun x => eqZ x n
theorem eqZ_comm (x y:Int):eqZ x y = eqZ y x:=by
 rw [eqZ_dec,eqZ_dec]
 congr 1
 exact propext ⟨Eq.symm,Eq.symm⟩
theorem SetHas_impl (l:List Int) (n:Int) (u:Unit) (hl:l.length <= 1099511627776):impl_SetHas (l,n,u) () = some (hasB l n,()):=by
 have l0:=fun A:Type => findS (A:=A) (F:=slices_Index_int_int_L0) (fun i => ((i:Int),(l.length:Int),n,l,())) (0,(l.length:Int),n,l,()) l (fun x => eqZ x n) (Sum.inl (false,(l.length:Int),(l.length:Int),n,l,())) (fun i => ((i:Int),())) rfl hl
  (fun i hi => by
   unfold slices_Index_int_int_L0
   simp only [lt_yes hi,if_true,getI_lt hi,some_bind',idxN hi hl (Nat.le_refl _),eqZ_comm n]
   cases eqZ l[i] n <;> rfl)
  (by unfold slices_Index_int_int_L0; simp only [lt_no,Bool.false_eq_true,if_false])
 have e:slices_Index_int_int (l,n,()) () = some (idxOf (fun x => eqZ x n) l,()):=by
  unfold slices_Index_int_int idxOf
  simp only [lenI_eq,l0]
  cases l.findIdx? (fun x => eqZ x n) <;> rfl
 unfold impl_SetHas slices_Contains_int_int hasB
 simp only [e,some_bind',idxOf_any]
open Go.Abs
set_option linter.unusedVariables false
set_option linter.unusedSimpArgs false
/-- a set lies in another -/
def subB (a b:List Int):Bool:=a.all (hasB b)
theorem SetSubset_impl (a b:List Int) (u:Unit) (ha:a.length <= 1099511627776) (hb:b.length <= 1099511627776):impl_SetSubset (a,b,u) () = some (subB a b,()):=by
 have l0:=fun A:Type => allS (A:=A) (F:=impl_SetSubset_L0) (fun i => ((i:Int),(a.length:Int),a,b,())) (0,(a.length:Int),a,b,()) a (hasB b) (Sum.inl (false,(a.length:Int),(a.length:Int),a,b,())) (false,()) rfl ha
  (fun i hi => by
   unfold impl_SetSubset_L0
   simp only [lt_yes hi,if_true,getI_lt hi,some_bind',SetHas_impl _ _ _ hb,idxN hi ha (Nat.le_refl _)]
   cases hasB b a[i] <;> rfl)
  (by unfold impl_SetSubset_L0; simp only [lt_no,Bool.false_eq_true,if_false])
 unfold impl_SetSubset subB
 simp only [lenI_eq,l0]
 cases a.all (hasB b) <;> rfl
/-- a list in order, nothing twice -/
def ordI (l:List Int):Nat -> Bool
 | 0 => true
 | j + 1 => match l[j]?,l[j + 1]? with | some x,some y => notB (leZ y x) | _,_ => true
def setB (l:List Int):Bool:=(List.range l.length).all (ordI l)
theorem all_succ (q:Nat -> Bool) (n:Nat):(List.range (n + 1)).all q = (q 0 && (List.range n).all fun i => q (i + 1)):=by
 rw [List.range_succ_eq_map,List.all_cons,List.all_map]
 rfl
theorem SetOk_impl (l:List Int) (u:Unit) (hl:l.length <= 1099511627776):impl_SetOk (l,u) () = some (setB l,()):=by
 have l0:=fun A:Type => allIS (A:=A) (F:=impl_SetOk_L0) (fun i => (((i + 1:Nat):Int),l,())) (1,l,()) (l.length - 1) (fun i => ordI l (i + 1)) (Sum.inl (false,((l.length - 1 + 1:Nat):Int),l,())) (false,()) rfl (by omega)
  (fun i hi => by
   have hi1:i + 1 < l.length:=by omega
   have hj:i < l.length:=by omega
   unfold impl_SetOk_L0
   simp only [lenI_eq,lt_yes hi1,if_true,idx_pred i (by omega),getI_lt hj,getI_lt hi1,some_bind',ordI,List.getElem?_eq_getElem hj,List.getElem?_eq_getElem hi1,idxN hi1 hl (Nat.le_refl _)]
   cases leZ l[i + 1] l[i] <;> rfl)
  (by
   have e:ltZ ((l.length - 1 + 1:Nat):Int) (l.length:Int) = false:=by rw [Bool.eq_false_iff,Ne,ltZ_iff]; omega
   unfold impl_SetOk_L0
   simp only [lenI_eq,e,Bool.false_eq_true,if_false])
 have hs:setB l = (List.range (l.length - 1)).all fun i => ordI l (i + 1):=by
  unfold setB
  by_cases h0:l.length = 0
  ·rw [h0]; rfl
  ·obtain ⟨n,hn⟩:∃ n,l.length = n + 1:=⟨l.length - 1,by omega⟩
   rw [hn,all_succ]
   simp [ordI]
 unfold impl_SetOk
 simp only [l0,hs]
 cases (List.range (l.length - 1)).all (fun i => ordI l (i + 1)) <;> rfl
theorem intRange_s (n:Nat) (u:Unit) (hn:n <= 200):spec_IntRange ((n:Int),u) () = some (iotaI n,()):=by
 unfold spec_IntRange
 have hw:inB (n:Int) 0 200 = true:=inB_iff.2 ⟨by omega,by omega⟩
 simp only [l01In_eq,some_bind',hw,notB_true,Bool.false_eq_true,if_false]
 have l0:=fun A:Type => (fold_loop (A:=A) (F:=spec_IntRange_L0) (fun i out => ((i:Int),(n:Int),out,())) n (fun i out => out.length = i) (fun i out => out ++ [(i:Int)]) (fun out => Sum.inl (false,(n:Int),(n:Int),out,())) (by omega)
  (fun i out hi ho => by
   have ha:addI out [(i:Int)] = some (out ++ [(i:Int)]):=addI_ok (by rw [room_eq]; simp; omega)
   constructor
   ·unfold spec_IntRange_L0
    simp only [lt_yes hi,if_true,ha,some_bind',idxN hi (show n <= 1099511627776 by omega) (Nat.le_refl _)]
   ·simp [ho])
  (fun out ho => by
   unfold spec_IntRange_L0
   simp only [lt_no,Bool.false_eq_true,if_false])
  (a:=[]) rfl).1
 have e0:(((0:Nat):Int),(n:Int),([]:List Int),()) = ((0:Int),(n:Int),([]:List Int),()):=rfl
 rw [e0] at l0
 have e1:=foldN_iota (fun (out:List Int) (x:Int) => out ++ [x]) n []
 simp only [l0,some_bind',e1,foldl_append,List.nil_append]
theorem intRange_i:impl_IntRange = spec_IntRange:=rfl
open Go.Abs
set_option linter.unusedVariables false
set_option linter.unusedSimpArgs false
def insV (n:Int):List Int -> List Int
 | [] => [n]
 | x :: l => if x < n then x :: insV n l else n :: x :: l
theorem insV_split {n:Int}:∀ {A B:List Int},(∀ x ∈ A,x < n) -> (∀ x ∈ B,n < x) -> insV n (A ++ B) = A ++ n :: B
 | [],[],_,_ => rfl
 | [],b :: B,_,h => by
  have:¬ b < n:=by have:=h b (by simp); omega
  simp [insV,this]
 | a :: A,B,h,h' => by
  have:a < n:=h a (by simp)
  have ih:=insV_split (n:=n) (A:=A) (B:=B) (fun x hx => h x (by simp [hx])) h'
  simp [insV,this,ih]
abbrev Asc (l:List Int):Prop:=l.Pairwise (· < ·)
theorem big_two1:∃ n,big = n + 1 + 1:=⟨18446744073709551614,rfl⟩
theorem loop_exitA {σ A B C:Type} {F:σ -> Option (Out σ B C)} {s:σ} {b:B} (h:F s = some (.exit b)):loopN (A:=A) big F s = some (.exit b):=by
 obtain ⟨n,hn⟩:=big_two1
 rw [hn]
 simp only [loopN,h]
 rfl
theorem loop_retA {σ A B C:Type} {F:σ -> Option (Out σ B C)} {s:σ} {c:C} (h:F s = some (.ret c)):loopN (A:=A) big F s = some (.ret c):=by
 obtain ⟨n,hn⟩:=big_two1
 rw [hn]
 simp only [loopN,h]
 rfl
/-- the program's way -/
theorem Less_i (x y:Int) (u:Unit):cmp_Less_int (x,y,u) () = some (ltZ x y,()):=by
 have e:∀ x u,cmp_isNaN_int (x,u) () = some (false,()):=fun x u => by
  unfold cmp_isNaN_int
  simp [eqZ_self,notB]
 unfold cmp_Less_int
 simp only [e,some_bind',Bool.false_eq_true,if_false]
theorem getI_mid {α:Type} (A:List α) (x:α) (B:List α):getI (A ++ x :: B) (A.length:Int) = some x:=by
 rw [getI_nat,List.getElem?_append_right (Nat.le_refl _)]
 simp
theorem setI_mid {α:Type} (x:α) (B:List α) (f:α -> α):∀ (A:List α),setI (A ++ x :: B) (A.length:Int) f = A ++ f x :: B:=fun A => by
 rw [setI_nat]
 induction A with
 | nil => rfl
 | cons a A ih => simp [List.modify_succ_cons,ih]
/-- the last number finds its place -/
theorem ins_inner (l:List Int) (n:Int) (hl:l.length <= 1000) (h:Asc l) (hn:n ∉ l):∃ b j,∀ A:Type,loopN (A:=A) big slices_insertionSortOrdered_int_L0 ((l.length:Int),(l.length:Int),((l.length + 1:Nat):Int),0,l ++ [n],()) = some (.exit (Sum.inl (b,j,(l.length:Int),((l.length + 1:Nat):Int),0,insV n l,()))):=by
 rcases one_loop (F:=slices_insertionSortOrdered_int_L0) (fun k (a:List Int × List Int) => ((a.1.length:Int),(l.length:Int),((l.length + 1:Nat):Int),0,a.1 ++ n :: a.2,())) l.length (fun k a => a.1 ++ a.2 = l /\ a.1.length + k = l.length /\ ∀ x ∈ a.2,n < x)
  (fun b => ∃ b0 j,b = Sum.inl (b0,j,(l.length:Int),((l.length + 1:Nat):Int),0,insV n l,())) (fun _ => False) (by omega)
  (fun k a hk hI => by
   obtain ⟨A,B⟩:=a
   obtain ⟨h1,h2,h3⟩:=hI
   simp only at h1 h2 h3
   rcases List.eq_nil_or_concat A with rfl | ⟨A',y,rfl⟩
   ·refine .inr (.inl ⟨_,?_,false,0,rfl⟩)
    have e:insV n l = n :: B:=by
     have:=insV_split (n:=n) (A:=[]) (B:=B) (by simp) h3
     rw [<- h1]; exact this
    have e0:ltZ 0 ((([]:List Int).length:Nat):Int) = false:=rfl
    unfold slices_insertionSortOrdered_int_L0
    simp only [e0,Bool.false_eq_true,if_false,some_bind',e]
    rfl
   ·have hj:(A'.concat y).length = A'.length + 1:=by simp
    have hd:A'.concat y ++ n :: B = (A' ++ [y]) ++ n :: B:=by simp
    have hd2:(A' ++ [y]) ++ n :: B = A' ++ y :: (n :: B):=by simp
    have g1:getI ((A' ++ [y]) ++ n :: B) ((A'.length + 1:Nat):Int) = some n:=by
     have:=getI_mid (A' ++ [y]) n B
     rw [show (A' ++ [y]).length = A'.length + 1 by simp] at this
     exact this
    have g2:getI ((A' ++ [y]) ++ n :: B) (A'.length:Int) = some y:=by
     rw [hd2]; exact getI_mid A' y (n :: B)
    have g3:setI ((A' ++ [y]) ++ n :: B) ((A'.length + 1:Nat):Int) (fun _ => y) = A' ++ y :: (y :: B):=by
     have:=setI_mid n B (fun _ => y) (A' ++ [y])
     rw [show (A' ++ [y]).length = A'.length + 1 by simp] at this
     rw [this]; simp
    have g4:getI (A' ++ y :: (y :: B)) (A'.length:Int) = some y:=getI_mid A' y (y :: B)
    have g5:setI (A' ++ y :: (y :: B)) (A'.length:Int) (fun _ => n) = A' ++ n :: (y :: B):=setI_mid y (y :: B) (fun _ => n) A'
    have e0:ltZ 0 ((A'.length + 1:Nat):Int) = true:=by rw [ltZ_iff]; omega
    have e1:=idx_pred A'.length (by have:=hj; omega)
    have hne:y ≠ n:=fun e => hn (by rw [<- h1,<- e]; simp)
    rcases tf (ltZ n y) with q | q
    ·refine .inr (.inl ⟨_,?_,false,((A'.length + 1:Nat):Int),rfl⟩)
     have hy:y < n:=by rw [ltZ_dec,decide_eq_false_iff_not] at q; omega
     have hA:∀ x ∈ A' ++ [y],x < n:=fun x hx => by
      rcases List.mem_append.1 hx with hx | hx
      ·have hp:Asc (A' ++ (y :: B)):=by
        have:A' ++ (y :: B) = l:=by rw [<- h1]; simp
        rw [this]; exact h
       have:=(List.pairwise_append.1 hp).2.2 x hx y (by simp)
       omega
      ·rw [List.mem_singleton.1 hx]; exact hy
     have e:insV n l = (A' ++ [y]) ++ n :: B:=by
      have:=insV_split hA h3
      rw [<- h1]
      simpa using this
     unfold slices_insertionSortOrdered_int_L0
     simp only [hj,hd,e0,if_true,g1,e1,g2,some_bind',Less_i,q,Bool.false_eq_true,if_false,e]
    ·refine .inl ⟨(A',y :: B),by have:=hj; simp only [hj] at h2; omega,?_,by rw [<- h1]; simp,by simp only [hj] at h2; simp only; omega,fun x hx => ?_⟩
     ·unfold slices_insertionSortOrdered_int_L0
      simp only [hj,hd,e0,if_true,g1,e1,g2,g3,g4,g5,some_bind',Less_i,q]
     ·rcases List.mem_cons.1 hx with rfl | hx
      ·rw [ltZ_dec,decide_eq_true_eq] at q; exact q
      ·exact h3 x hx)
  (a:=(l,[])) (s:=((l.length:Int),(l.length:Int),((l.length + 1:Nat):Int),0,l ++ [n],())) rfl ⟨by simp,by simp,by simp⟩ with ⟨b,e,b0,j,rfl⟩ | ⟨_,_,hf⟩
 ·exact ⟨b0,j,e⟩
 ·exact hf.elim
theorem ins_sort (l:List Int) (n:Int) (u:Unit) (hl:l.length <= 1000) (h:Asc l) (hn:n ∉ l):slices_insertionSortOrdered_int (l ++ [n],0,((l.length + 1:Nat):Int),u) () = some ((),insV n l):=by
 obtain ⟨b0,j0,hin⟩:=ins_inner l n hl h hn
 have l1:∃ b,∀ A:Type,loopN (A:=A) big slices_insertionSortOrdered_int_L1 (1,((l.length + 1:Nat):Int),0,l ++ [n],()) = some (.exit (Sum.inl (b,((l.length + 1:Nat):Int),((l.length + 1:Nat):Int),0,insV n l,()))):=by
  rcases one_loop (F:=slices_insertionSortOrdered_int_L1) (fun k (d:List Int) => (((k + 1:Nat):Int),((l.length + 1:Nat):Int),0,d,())) l.length (fun k d => d = if k < l.length then l ++ [n] else insV n l)
   (fun b => ∃ b0,b = Sum.inl (b0,((l.length + 1:Nat):Int),((l.length + 1:Nat):Int),0,insV n l,())) (fun _ => False) (by omega)
   (fun k d hk hI => by
    by_cases hlt:k < l.length
    ·rw [if_pos hlt] at hI
     subst hI
     have e0:ltZ ((k + 1:Nat):Int) ((l.length + 1:Nat):Int) = true:=by rw [ltZ_iff]; omega
     have e9:addZ .i64 ((k + 1:Nat):Int) 1 = ((k + 1 + 1:Nat):Int):=addP (by omega) (by omega) (by omega)
     by_cases hk1:k + 1 < l.length
     ·refine .inl ⟨l ++ [n],hlt,?_,by rw [if_pos hk1]⟩
      have g1:getI (l ++ [n]) ((k + 1:Nat):Int) = some l[k + 1]:=by rw [getI_nat,List.getElem?_append_left hk1,List.getElem?_eq_getElem hk1]
      have g2:getI (l ++ [n]) (k:Int) = some l[k]:=by rw [getI_nat,List.getElem?_append_left hlt,List.getElem?_eq_getElem hlt]
      have q:ltZ l[k + 1] l[k] = false:=by
       rw [ltZ_dec,decide_eq_false_iff_not]
       have:=List.pairwise_iff_getElem.1 h k (k + 1) hlt hk1 (by omega)
       omega
      have e1:ltZ 0 ((k + 1:Nat):Int) = true:=by rw [ltZ_iff]; omega
      have l0:=fun A:Type => loop_exitA (A:=A) (F:=slices_insertionSortOrdered_int_L0) (s:=(((k + 1:Nat):Int),((k + 1:Nat):Int),((l.length + 1:Nat):Int),0,l ++ [n],())) (b:=Sum.inl (false,((k + 1:Nat):Int),((k + 1:Nat):Int),((l.length + 1:Nat):Int),0,l ++ [n],())) (by
       unfold slices_insertionSortOrdered_int_L0
       simp only [e1,if_true,g1,idx_pred k (by omega),g2,some_bind',Less_i,q,Bool.false_eq_true,if_false])
      unfold slices_insertionSortOrdered_int_L1
      simp only [e0,if_true,l0,some_bind',e9]
     ·have hm:k + 1 = l.length:=by omega
      refine .inl ⟨insV n l,hlt,?_,by rw [if_neg (by omega)]⟩
      simp only [hm] at e0 e9 ⊢
      unfold slices_insertionSortOrdered_int_L1
      simp only [e0,if_true,hin,some_bind',e9]
    ·obtain rfl:k = l.length:=by omega
     rw [if_neg hlt] at hI
     subst hI
     refine .inr (.inl ⟨_,?_,false,rfl⟩)
     have e0:ltZ ((l.length + 1:Nat):Int) ((l.length + 1:Nat):Int) = false:=by rw [ltZ_dec]; simp
     unfold slices_insertionSortOrdered_int_L1
     simp only [e0,Bool.false_eq_true,if_false])
   (a:=l ++ [n]) (s:=(1,((l.length + 1:Nat):Int),0,l ++ [n],())) rfl (by
    split
    ·rfl
    ·rename_i h0
     have:l = []:=List.eq_nil_of_length_eq_zero (by omega)
     subst this
     rfl) with ⟨b,e,b0,rfl⟩ | ⟨_,_,hf⟩
  ·exact ⟨b0,e⟩
  ·exact hf.elim
 obtain ⟨b,l1⟩:=l1
 have e1:addZ .i64 0 1 = (1:Int):=rfl
 unfold slices_insertionSortOrdered_int
 simp only [e1,l1,some_bind']
theorem bits_ok:∀ k:Nat,k <= 12 -> ∃ v,∀ u,math_bits_Len (wrapI .u64 (k:Int),u) () = some (v,())
 | 0,_ => ⟨_,fun _ => rfl⟩
 | 1,_ => ⟨_,fun _ => rfl⟩
 | 2,_ => ⟨_,fun _ => rfl⟩
 | 3,_ => ⟨_,fun _ => rfl⟩
 | 4,_ => ⟨_,fun _ => rfl⟩
 | 5,_ => ⟨_,fun _ => rfl⟩
 | 6,_ => ⟨_,fun _ => rfl⟩
 | 7,_ => ⟨_,fun _ => rfl⟩
 | 8,_ => ⟨_,fun _ => rfl⟩
 | 9,_ => ⟨_,fun _ => rfl⟩
 | 10,_ => ⟨_,fun _ => rfl⟩
 | 11,_ => ⟨_,fun _ => rfl⟩
 | 12,_ => ⟨_,fun _ => rfl⟩
 | _ + 13,h => absurd h (by omega)
theorem sub_zero:∀ k:Nat,k <= 12 -> subZ .i64 (k:Int) 0 = (k:Int)
 | 0,_ => rfl
 | 1,_ => rfl
 | 2,_ => rfl
 | 3,_ => rfl
 | 4,_ => rfl
 | 5,_ => rfl
 | 6,_ => rfl
 | 7,_ => rfl
 | 8,_ => rfl
 | 9,_ => rfl
 | 10,_ => rfl
 | 11,_ => rfl
 | 12,_ => rfl
 | _ + 13,h => absurd h (by omega)
theorem Sort_i (l:List Int) (n:Int) (u:Unit) (hl:l.length <= 11) (h:Asc l) (hn:n ∉ l):slices_Sort_int_int (l ++ [n],u) () = some ((),insV n l):=by
 obtain ⟨v,hv⟩:=bits_ok (l.length + 1) (by omega)
 have hlen:lenI (l ++ [n]) = ((l.length + 1:Nat):Int):=by rw [lenI_eq]; simp
 have es:=sub_zero (l.length + 1) (by omega)
 have le:leZ ((l.length + 1:Nat):Int) 12 = true:=by rw [leZ_dec]; simp; omega
 have lp:=fun A:Type => loop_retA (A:=A) (F:=slices_pdqsortOrdered_int_L0) (s:=(true,true,((l.length + 1:Nat):Int),0,l ++ [n],v,())) (c:=((),insV n l)) (by
  unfold slices_pdqsortOrdered_int_L0
  simp only [es,le,if_true,ins_sort l n _ (by omega) h hn,some_bind'])
 unfold slices_Sort_int_int
 simp only [hlen,hv,some_bind']
 unfold slices_pdqsortOrdered_int
 simp only [lp,some_bind']
theorem insV_mem {n:Int}:∀ {l:List Int} {x:Int},x ∈ insV n l ↔ x = n \/ x ∈ l
 | [],x => by simp [insV]
 | a :: l,x => by
  unfold insV
  split
  ·simp only [List.mem_cons,insV_mem (l:=l)]
   constructor
   ·rintro (h | h | h)
    ·exact .inr (.inl h)
    ·exact .inl h
    ·exact .inr (.inr h)
   ·rintro (h | h | h)
    ·exact .inr (.inl h)
    ·exact .inl h
    ·exact .inr (.inr h)
  ·simp
theorem insV_length {n:Int}:∀ {l:List Int},(insV n l).length = l.length + 1
 | [] => rfl
 | a :: l => by
  unfold insV
  split
  ·simp [insV_length (l:=l)]
  ·simp
theorem insV_asc {n:Int}:∀ {l:List Int},Asc l -> n ∉ l -> Asc (insV n l)
 | [],_,_ => by simp [insV]
 | a :: l,h,hn => by
  obtain ⟨h1,h2⟩:=List.pairwise_cons.1 h
  unfold insV
  split
  ·rename_i ha
   refine List.pairwise_cons.2 ⟨fun x hx => ?_,insV_asc h2 (fun hm => hn (by simp [hm]))⟩
   rcases insV_mem.1 hx with rfl | hx
   ·exact ha
   ·exact h1 x hx
  ·rename_i ha
   have:a ≠ n:=fun e => hn (by simp [e])
   refine List.pairwise_cons.2 ⟨fun x hx => ?_,h⟩
   rcases List.mem_cons.1 hx with rfl | hx
   ·omega
   ·have:=h1 x hx; omega
theorem Compact_i (l:List Int) (u:Unit) (hl:l.length <= 1000) (h:Asc l):slices_Compact_int_int (l,u) () = some (l,()):=by
 unfold slices_Compact_int_int
 rcases tf (ltZ (lenI l) 2) with q | q
 ·rw [ltZ_dec,lenI_eq,decide_eq_false_iff_not] at q
  have l0:∃ b i,∀ A:Type,loopN (A:=A) big slices_Compact_int_int_L0 (1,l,()) = some (.exit (Sum.inl (b,i,l,()))):=by
   rcases one_loop (F:=slices_Compact_int_int_L0) (fun k (_:Unit) => (((k + 1:Nat):Int),l,())) (l.length - 1) (fun _ _ => True) (fun b => ∃ b0 i,b = Sum.inl (b0,i,l,())) (fun _ => False) (by omega)
    (fun k a hk _ => by
     by_cases hlt:k + 1 < l.length
     ·have hk':k < l.length:=by omega
      have e0:ltZ ((k + 1:Nat):Int) (lenI l) = true:=by rw [lenI_eq,ltZ_iff]; omega
      have e9:addZ .i64 ((k + 1:Nat):Int) 1 = ((k + 1 + 1:Nat):Int):=addP (by omega) (by omega) (by omega)
      have q:eqZ l[k + 1] l[k] = false:=eqZ_ne (by
       have:=List.pairwise_iff_getElem.1 h k (k + 1) hk' hlt (by omega)
       omega)
      refine .inl ⟨(),by omega,?_,trivial⟩
      unfold slices_Compact_int_int_L0
      simp only [e0,if_true,getI_lt hlt,idx_pred k (by omega),getI_lt hk',some_bind',q,Bool.false_eq_true,if_false,e9]
     ·have e0:ltZ ((k + 1:Nat):Int) (lenI l) = false:=by rw [lenI_eq,ltZ_dec,decide_eq_false_iff_not]; omega
      refine .inr (.inl ⟨Sum.inl (false,((k + 1:Nat):Int),l,()),?_,false,_,rfl⟩)
      unfold slices_Compact_int_int_L0
      simp only [e0,Bool.false_eq_true,if_false])
    (a:=()) (s:=(1,l,())) rfl trivial with ⟨b,e,b0,i,rfl⟩ | ⟨_,_,hf⟩
   ·exact ⟨b0,i,e⟩
   ·exact hf.elim
  obtain ⟨b,i,l0⟩:=l0
  have q':ltZ (lenI l) 2 = false:=by rw [ltZ_dec,lenI_eq,decide_eq_false_iff_not]; exact q
  simp only [q',Bool.false_eq_true,if_false,l0,some_bind']
 ·simp only [q,if_true]
theorem SetAdd_i (l:List Int) (n:Int) (u:Unit) (hl:l.length <= 11) (h:Asc l) (hn:n ∉ l):impl_SetAdd (l,n,u) () = some (insV n l,()):=by
 have c:∀ (x:List Int) (u:Unit),x.length <= 1048576 -> slices_Clone_int_int (x,u) () = some (x,()):=fun x u hx => by
  unfold slices_Clone_int_int
  simp only [addNilR _ hx,some_bind']
 unfold impl_SetAdd impl_SetOf
 simp only [c l _ (by omega),some_bind',addOneR l n (by omega),c (l ++ [n]) _ (by simp; omega),Sort_i l n _ hl h hn,Compact_i (insV n l) _ (by rw [insV_length]; omega) (insV_asc h hn)]
open Go.Abs
set_option linter.unusedVariables false
set_option linter.unusedSimpArgs false
theorem ModeIndexes_i (a:D_Activity) (u:Unit) (h:a.2.2.1.length <= 200):impl_ModeIndexes (a,u) () = some (iotaI a.2.2.1.length,()):=by
 unfold impl_ModeIndexes
 simp only [lenI_eq,intRange_i,intRange_s _ _ h,some_bind']
open Go.Abs
set_option linter.unusedVariables false
set_option linter.unusedSimpArgs false
/-- the best so far, if there is one -/
def durStep (c:Int -> Int -> Bool) (s:Bool × Int) (m:D_Mode):Bool × Int:=if (notB s.1 || c m.1 s.2) = true then (true,m.1) else s
def choF (a:D_Activity) (ms:List Int) (i:Nat) (out:List D_Mode):List D_Mode:=match a.2.2.1[i]? with | some m => if hasB ms (i:Int) = true then out ++ [m] else out | none => out
/-- the modes that are left -/
def choL (a:D_Activity) (ms:List Int):List D_Mode:=foldN (choF a ms) a.2.2.1.length 0 []
def durV (c:Int -> Int -> Bool) (a:D_Activity) (ms:List Int):Int:=((choL a ms).foldl (durStep c) (false,0)).2
theorem choL_len (a:D_Activity) (ms:List Int):(choL a ms).length <= a.2.2.1.length:=by
 have:∀ (k i:Nat) (out:List D_Mode),(foldN (choF a ms) k i out).length <= out.length + k:=by
  intro k
  induction k with
  | zero => intro i out; exact Nat.le_refl _
  | succ k ih =>
   intro i out
   simp only [foldN]
   refine Nat.le_trans (ih _ _) ?_
   have:(choF a ms i out).length <= out.length + 1:=by
    unfold choF
    cases a.2.2.1[i]? with
    | none => simp
    | some m => simp only; split <;> simp
   omega
 have:=this a.2.2.1.length 0 []
 rw [List.length_nil,Nat.zero_add] at this
 exact this
theorem chosen_eq (a:D_Activity) (ms:List Int) (u:Unit) (ha:a.2.2.1.length <= 1000000) (hm:ms.length <= 1099511627776):impl_chosen (a,ms,u) () = some (choL a ms,()):=by
 have l0:=fun A:Type => (fold_loop (A:=A) (F:=impl_chosen_L0) (fun i out => ((i:Int),(a.2.2.1.length:Int),a.2.2.1,ms,out,())) a.2.2.1.length (fun i out => out.length <= i) (choF a ms) (fun out => Sum.inl (false,(a.2.2.1.length:Int),(a.2.2.1.length:Int),a.2.2.1,ms,out,())) (by omega)
  (fun i out hi ho => by
   unfold choF
   rw [List.getElem?_eq_getElem hi]
   have ha':addI out [a.2.2.1[i]] = some (out ++ [a.2.2.1[i]]):=addI_ok (by rw [room_eq]; simp; omega)
   constructor
   ·unfold impl_chosen_L0
    simp only [lt_yes hi,if_true,getI_lt hi,some_bind',SetHas_impl _ _ _ hm]
    rcases tf (hasB ms (i:Int)) with h | h <;> simp [-Int.natCast_add,h,ha',idxN hi (show a.2.2.1.length <= 1099511627776 by omega) (Nat.le_refl _)]
   ·simp only
    split
    ·simp; omega
    ·omega)
  (fun out ho => by
   unfold impl_chosen_L0
   simp only [lt_no,Bool.false_eq_true,if_false])
  (a:=[]) (Nat.le_refl _)).1
 have e0:(((0:Nat):Int),(a.2.2.1.length:Int),a.2.2.1,ms,([]:List D_Mode),()) = ((0:Int),(a.2.2.1.length:Int),a.2.2.1,ms,([]:List D_Mode),()):=rfl
 rw [e0] at l0
 unfold impl_chosen choL
 simp only [lenI_eq,l0,some_bind']
theorem step_flag {c:Int -> Int -> Bool} {s:Bool × Int} {m:D_Mode}:(durStep c s m).1 = true:=by
 obtain ⟨f,n⟩:=s
 unfold durStep
 cases f <;> cases h:c m.1 n <;> simp [notB,h]
theorem MinDuration_impl (a:D_Activity) (ms:List Int) (u:Unit) (ha:a.2.2.1.length <= 1000000) (hm:ms.length <= 1099511627776):impl_MinDuration (a,ms,u) () = some (durV (fun x n => ltZ x n) a ms,()):=by
 have hcl:=choL_len a ms
 have l0:=fun A:Type => (fold_list (A:=A) (F:=impl_MinDuration_L0) (fun i (s:Bool × Int) => ((i:Int),((choL a ms).length:Int),choL a ms,s.2,())) (choL a ms) (fun i s => notB s.1 = eqZ (i:Int) 0) (durStep fun x n => ltZ x n) (fun s => Sum.inl (false,((choL a ms).length:Int),((choL a ms).length:Int),choL a ms,s.2,())) (by omega)
  (fun i s hi hs => by
   refine ⟨?_,?_⟩
   ·unfold impl_MinDuration_L0
    simp only [lt_yes hi,if_true,getI_lt hi,some_bind',<- hs]
    obtain ⟨f,n⟩:=s
    unfold durStep
    simp only
    rcases tf (notB f) with h | h <;> rcases tf (ltZ (choL a ms)[i].1 n) with h' | h' <;> simp [-Int.natCast_add,h,h',idxN hi (show (choL a ms).length <= 1099511627776 by omega) (Nat.le_refl _)]
   ·rw [step_flag,notB_true]
    exact (eqZ_ne (by omega)).symm)
  (fun s hs => by
   unfold impl_MinDuration_L0
   simp only [lt_no,Bool.false_eq_true,if_false])
  (a:=(false,0)) (s:=(0,((choL a ms).length:Int),choL a ms,0,())) rfl rfl).1
 unfold impl_MinDuration durV
 simp only [chosen_eq _ _ _ ha hm,some_bind',lenI_eq,l0]
end Go.Proofs.YteggmejnpcfalaaGreat
