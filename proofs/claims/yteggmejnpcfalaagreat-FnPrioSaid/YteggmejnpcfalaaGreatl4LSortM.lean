/-
  Plain laws: numbers in a row, lists that hold a number, sets, domains (several small texts in one). Condition: no list is longer than 2 to the 40.
-/
import Derived.Test.YteggmejnpcfalaaGreatl4LRunM
import Derived.Test.YteggmejnpcfalaaGreatN36
namespace Go.Proofs.YteggmejnpcfalaaGreat
open Go.Abs
set_option linter.unusedVariables false
set_option linter.unusedSimpArgs false
open Go.Abs
set_option linter.unusedVariables false
set_option linter.unusedSimpArgs false
/-- a number put into a list, from the right, ahead of all from which it is to be moved away -/
def insK (p:Int -> Int -> Bool) (n:Int) (l:List Int):List Int:=(l.reverse.dropWhile (p n)).reverse ++ n :: (l.reverse.takeWhile (p n)).reverse
theorem insK_split {p:Int -> Int -> Bool} {n:Int} {A B:List Int} (hB:∀ x ∈ B,p n x = true) (hA:∀ A' y,A = A' ++ [y] -> p n y = false):insK p n (A ++ B) = A ++ n :: B:=by
 unfold insK
 have hB':∀ x ∈ B.reverse,p n x = true:=fun x hx => hB x (by simpa using hx)
 have h2:A.reverse.takeWhile (p n) = [] /\ A.reverse.dropWhile (p n) = A.reverse:=by
  rcases List.eq_nil_or_concat A with rfl | ⟨A',y,rfl⟩
  ·simp
  ·have:=hA A' y (by simp)
   simp [this]
 have h1:(B.reverse ++ A.reverse).takeWhile (p n) = B.reverse /\ (B.reverse ++ A.reverse).dropWhile (p n) = A.reverse:=by
  generalize B.reverse = C at hB'
  induction C with
  | nil => simpa using h2
  | cons c C ih =>
   have hc:=hB' c (by simp)
   obtain ⟨i1,i2⟩:=ih fun x hx => hB' x (by simp [hx])
   simp [hc,i1,i2]
 rw [List.reverse_append,h1.1,h1.2]
 simp
theorem insK_perm (p:Int -> Int -> Bool) (n:Int) (l:List Int):List.Perm (insK p n l) (n :: l):=by
 unfold insK
 have h:l = (l.reverse.dropWhile (p n)).reverse ++ (l.reverse.takeWhile (p n)).reverse:=by
  rw [<- List.reverse_append,List.takeWhile_append_dropWhile,List.reverse_reverse]
 refine List.perm_middle.trans ?_
 rw [<- h]
def srtK (p:Int -> Int -> Bool) (l:List Int):List Int:=l.foldl (fun out x => insK p x out) []
theorem srtK_perm (p:Int -> Int -> Bool) (l:List Int):List.Perm (srtK p l) l:=by
 have:∀ (l out:List Int),List.Perm (l.foldl (fun out x => insK p x out) out) (out ++ l):=by
  intro l
  induction l with
  | nil => intro out; simp
  | cons x l ih =>
   intro out
   simp only [List.foldl_cons]
   refine (ih _).trans ?_
   refine ((insK_perm p x out).append_right l).trans ?_
   exact (List.perm_middle (a:=x) (l₁:=out) (l₂:=l)).symm
 have:=this l []
 simpa [srtK] using this
theorem srtK_length (p:Int -> Int -> Bool) (l:List Int):(srtK p l).length = l.length:=(srtK_perm p l).length_eq
theorem srtK_snoc (p:Int -> Int -> Bool) (l:List Int) (x:Int):srtK p (l ++ [x]) = insK p x (srtK p l):=by
 unfold srtK
 rw [List.foldl_append]
 rfl
theorem srtK_mem {p:Int -> Int -> Bool} {l:List Int} {x:Int} (h:x ∈ srtK p l):x ∈ l:=(srtK_perm p l).mem_iff.1 h
theorem getI_midK {α:Type} (A:List α) (x:α) (B:List α):getI (A ++ x :: B) (A.length:Int) = some x:=by
 rw [getI_nat,List.getElem?_append_right (Nat.le_refl _)]
 simp
theorem setI_midK {α:Type} (x:α) (B:List α) (f:α -> α):∀ (A:List α),setI (A ++ x :: B) (A.length:Int) f = A ++ f x :: B:=fun A => by
 rw [setI_nat]
 induction A with
 | nil => rfl
 | cons a A ih => simp [List.modify_succ_cons,ih]
/-- the last number finds its place -/
theorem insK_inner (cmpF:D_Step -> Option Int) (p:Int -> Int -> Bool) (l rest:List Int) (n:Int) (m:Int) (hl:l.length <= 1000) (hc:∀ y ∈ l,∃ k,cmpF (n,y,()) = some k /\ ltZ k 0 = p n y) :
  ∃ b j,∀ A:Type,loopN (A:=A) big slices_insertionSortCmpFunc_int_L0 ((l.length:Int),(l.length:Int),m,0,cmpF,l ++ n :: rest,()) = some (.exit (Sum.inl (b,j,(l.length:Int),m,0,cmpF,insK p n l ++ rest,()))):=by
 rcases one_loop (F:=slices_insertionSortCmpFunc_int_L0) (fun k (a:List Int × List Int) => ((a.1.length:Int),(l.length:Int),m,0,cmpF,a.1 ++ n :: (a.2 ++ rest),())) l.length (fun k a => a.1 ++ a.2 = l /\ a.1.length + k = l.length /\ ∀ x ∈ a.2,p n x = true)
  (fun b => ∃ b0 j,b = Sum.inl (b0,j,(l.length:Int),m,0,cmpF,insK p n l ++ rest,())) (fun _ => False) (by omega)
  (fun k a hk hI => by
   obtain ⟨A,B⟩:=a
   obtain ⟨h1,h2,h3⟩:=hI
   simp only at h1 h2 h3
   rcases List.eq_nil_or_concat A with rfl | ⟨A',y,rfl⟩
   ·refine .inr (.inl ⟨_,?_,false,0,rfl⟩)
    have e:insK p n l = n :: B:=by
     have:=insK_split (p:=p) (n:=n) (A:=[]) (B:=B) h3 (by simp)
     rw [<- h1]; exact this
    have e0:ltZ 0 ((([]:List Int).length:Nat):Int) = false:=rfl
    unfold slices_insertionSortCmpFunc_int_L0
    simp only [e0,Bool.false_eq_true,if_false,some_bind',e]
    rfl
   ·have hj:(A'.concat y).length = A'.length + 1:=by simp
    have hd:A'.concat y ++ n :: (B ++ rest) = (A' ++ [y]) ++ n :: (B ++ rest):=by simp
    have hd2:(A' ++ [y]) ++ n :: (B ++ rest) = A' ++ y :: (n :: (B ++ rest)):=by simp
    have g1:getI ((A' ++ [y]) ++ n :: (B ++ rest)) ((A'.length + 1:Nat):Int) = some n:=by
     have:=getI_midK (A' ++ [y]) n (B ++ rest)
     rw [show (A' ++ [y]).length = A'.length + 1 by simp] at this
     exact this
    have g2:getI ((A' ++ [y]) ++ n :: (B ++ rest)) (A'.length:Int) = some y:=by
     rw [hd2]; exact getI_midK A' y (n :: (B ++ rest))
    have g3:setI ((A' ++ [y]) ++ n :: (B ++ rest)) ((A'.length + 1:Nat):Int) (fun _ => y) = A' ++ y :: (y :: (B ++ rest)):=by
     have:=setI_midK n (B ++ rest) (fun _ => y) (A' ++ [y])
     rw [show (A' ++ [y]).length = A'.length + 1 by simp] at this
     rw [this]; simp
    have g4:getI (A' ++ y :: (y :: (B ++ rest))) (A'.length:Int) = some y:=getI_midK A' y (y :: (B ++ rest))
    have g5:setI (A' ++ y :: (y :: (B ++ rest))) (A'.length:Int) (fun _ => n) = A' ++ n :: (y :: (B ++ rest)):=setI_midK y (y :: (B ++ rest)) (fun _ => n) A'
    have e0:ltZ 0 ((A'.length + 1:Nat):Int) = true:=by rw [ltZ_iff]; omega
    have e1:=idx_pred A'.length (by have:=hj; omega)
    obtain ⟨c,hc1,hc2⟩:=hc y (by rw [<- h1]; simp)
    rcases tf (p n y) with q | q
    ·refine .inr (.inl ⟨_,?_,false,((A'.length + 1:Nat):Int),rfl⟩)
     have es:insK p n l = (A' ++ [y]) ++ n :: B:=by
      have:=insK_split (p:=p) (n:=n) (A:=A' ++ [y]) (B:=B) h3 (fun A'' y' e => by
       have:=List.append_inj_right' e (by simp)
       simp at this
       rw [<- this]; exact q)
      rw [<- this,<- h1]
      simp
     unfold slices_insertionSortCmpFunc_int_L0
     simp only [hj,hd,e0,if_true,g1,g2,e1,some_bind',hc1,hc2,q,Bool.false_eq_true,if_false,es]
     simp
    ·refine .inl ⟨(A',y :: B),by omega,?_,?_,?_,?_⟩
     ·unfold slices_insertionSortCmpFunc_int_L0
      simp only [hj,hd,e0,if_true,g1,g2,e1,some_bind',hc1,hc2,q,g3,g4,g5]
      simp
     ·rw [<- h1]; simp
     ·simp only at h2 ⊢
      omega
     ·intro x hx
      rcases List.mem_cons.1 hx with rfl | hx
      ·exact q
      ·exact h3 x hx)
  (a:=(l,[])) (s:=((l.length:Int),(l.length:Int),m,0,cmpF,l ++ n :: rest,())) (by simp) ⟨by simp,by simp,by simp⟩ with ⟨b,e,b0,j,rfl⟩ | ⟨_,_,hf⟩
 ·exact ⟨b0,j,e⟩
 ·exact hf.elim
theorem SortK_ins (cmpF:D_Step -> Option Int) (p:Int -> Int -> Bool) (l:List Int) (hl:l.length <= 19) (hc:∀ x ∈ l,∀ y ∈ l,∃ k,cmpF (x,y,()) = some k /\ ltZ k 0 = p x y) (u:Unit) :
  slices_insertionSortCmpFunc_int (l,0,(l.length:Int),cmpF,u) () = some ((),srtK p l):=by
 by_cases h0:l = []
 ·subst h0
  have l1:∀ A:Type,loopN (A:=A) big slices_insertionSortCmpFunc_int_L1 (1,0,0,cmpF,[],()) = some (.exit (Sum.inl (false,1,0,0,cmpF,[],()))):=fun A => by
   have:slices_insertionSortCmpFunc_int_L1 (1,0,0,cmpF,[],()) = some (.exit (Sum.inl (false,1,0,0,cmpF,[],()))):=rfl
   have hb:∃ n,big = n + 1:=⟨18446744073709551615,rfl⟩
   obtain ⟨n,hn⟩:=hb
   rw [hn]
   simp only [loopN,this]
   rfl
  have ha:addZ .i64 0 1 = 1:=rfl
  unfold slices_insertionSortCmpFunc_int
  simp only [ha,List.length_nil,show (((0:Nat)):Int) = 0 from rfl,l1,some_bind']
  rfl
 have hpos:0 < l.length:=by cases l with | nil => exact absurd rfl h0 | cons _ _ => simp
 have hone:∀ x,insK p x [] = [x]:=fun x => by simp [insK]
 rcases one_loop (F:=slices_insertionSortCmpFunc_int_L1) (fun k (a:List Int) => (((k + 1:Nat):Int),(l.length:Int),0,cmpF,a,())) (l.length - 1) (fun k a => a = srtK p (l.take (k + 1)) ++ l.drop (k + 1))
  (fun b => ∃ b0 j,b = Sum.inl (b0,j,(l.length:Int),0,cmpF,srtK p l,())) (fun _ => False) (by omega)
  (fun k a hk hI => by
   subst hI
   by_cases hlt:k + 1 < l.length
   ·have hlen:(srtK p (l.take (k + 1))).length = k + 1:=by rw [srtK_length,List.length_take]; omega
    have hdr:l.drop (k + 1) = l[k + 1] :: l.drop (k + 2):=List.drop_eq_getElem_cons hlt
    obtain ⟨b,j,e⟩:=insK_inner cmpF p (srtK p (l.take (k + 1))) (l.drop (k + 2)) l[k + 1] (l.length:Int) (by omega) (fun y hy => hc _ (List.getElem_mem hlt) _ (List.mem_of_mem_take (srtK_mem hy)))
    rw [hlen] at e
    have hs:insK p l[k + 1] (srtK p (l.take (k + 1))) = srtK p (l.take (k + 2)):=by
     rw [<- srtK_snoc,List.take_succ_eq_append_getElem hlt]
    refine .inl ⟨srtK p (l.take (k + 2)) ++ l.drop (k + 2),by omega,?_,rfl⟩
    unfold slices_insertionSortCmpFunc_int_L1
    simp only [lt_yes hlt,if_true,hdr,e,some_bind',hs,idxN hlt (show l.length <= 1099511627776 by omega) (Nat.le_refl _)]
   ·obtain rfl:k = l.length - 1:=by omega
    have hk1:l.length - 1 + 1 = l.length:=by omega
    refine .inr (.inl ⟨Sum.inl (false,(l.length:Int),(l.length:Int),0,cmpF,srtK p l,()),?_,false,(l.length:Int),rfl⟩)
    unfold slices_insertionSortCmpFunc_int_L1
    simp only [hk1,lt_no,Bool.false_eq_true,if_false,List.take_length,List.drop_length,List.append_nil])
  (a:=l) (s:=(1,(l.length:Int),0,cmpF,l,())) rfl (by
   cases l with
   | nil => exact absurd rfl h0
   | cons x l => simp [srtK,hone]) with ⟨b,e,b0,j,rfl⟩ | ⟨_,_,hf⟩
 ·have ha:addZ .i64 0 1 = 1:=rfl
  unfold slices_insertionSortCmpFunc_int
  simp only [ha,e,some_bind']
 ·exact hf.elim
theorem loop1K {σ A B C:Type} {F:σ -> Option (Out σ B C)} {s:σ} {b:B} (h:F s = some (.exit b)):loopN (A:=A) big F s = some (.exit b):=by
 have hb:∃ n,big = n + 1:=⟨18446744073709551615,rfl⟩
 obtain ⟨n,hn⟩:=hb
 rw [hn]
 simp only [loopN,h]
 rfl
theorem SortStable_eq (cmpF:D_Step -> Option Int) (p:Int -> Int -> Bool) (l:List Int) (hl:l.length <= 19) (hc:∀ x ∈ l,∀ y ∈ l,∃ k,cmpF (x,y,()) = some k /\ ltZ k 0 = p x y) (u:Unit) :
  slices_SortStableFunc_int_int (l,cmpF,u) () = some ((),srtK p l):=by
 have h0:leZ 20 (l.length:Int) = false:=by rw [Bool.eq_false_iff,Ne,leZ_iff]; omega
 have h1:ltZ 20 (l.length:Int) = false:=by rw [Bool.eq_false_iff,Ne,ltZ_iff]; omega
 have e0:∀ A:Type,loopN (A:=A) big slices_stableCmpFunc_int_L0 (20,0,20,(l.length:Int),cmpF,l,()) = some (.exit (Sum.inl (false,20,0,20,(l.length:Int),cmpF,l,()))):=fun A => loop1K (by
  unfold slices_stableCmpFunc_int_L0
  simp only [h0,Bool.false_eq_true,if_false])
 have e2:∀ A:Type,∀ z,loopN (A:=A) big slices_stableCmpFunc_int_L2 (20,(l.length:Int),cmpF,z,()) = some (.exit (Sum.inl (false,20,(l.length:Int),cmpF,z,()))):=fun A z => loop1K (by
  unfold slices_stableCmpFunc_int_L2
  simp only [h1,Bool.false_eq_true,if_false])
 unfold slices_SortStableFunc_int_int slices_stableCmpFunc_int
 simp only [lenI_eq,e0,some_bind',SortK_ins cmpF p l hl hc,e2]
theorem Compare_lt (x y:Int) (u:Unit):∃ k,cmp_Compare_int (x,y,u) () = some (k,()) /\ ltZ k 0 = ltZ x y:=by
 have e:∀ x u,cmp_isNaN_int (x,u) () = some (false,()):=fun x u => by
  unfold cmp_isNaN_int
  simp [eqZ_self,notB]
 unfold cmp_Compare_int
 simp only [e,some_bind',Bool.false_eq_true,if_false]
 rcases tf (ltZ x y) with h | h
 ·rcases tf (ltZ y x) with h' | h'
  ·exact ⟨0,by simp [h,h'],by rw [h]; rfl⟩
  ·exact ⟨1,by simp [h,h'],by rw [h]; rfl⟩
 ·exact ⟨-1,by simp [h],by rw [h]; rfl⟩
end Go.Proofs.YteggmejnpcfalaaGreat
