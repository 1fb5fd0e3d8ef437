/-
  Plain laws: numbers in a row, lists that hold a number, sets, domains (several small texts in one). Condition: no list is longer than 2 to the 40.
-/
import Derived.Test.YteggmejnpcfalaaGreatl3LRunM
import Derived.Test.YteggmejnpcfalaaGreatl3LLeastM
import Derived.Test.YteggmejnpcfalaaGreatl3LBoxM
namespace Go.Proofs.YteggmejnpcfalaaGreat
open Go.Abs
set_option linter.unusedVariables false
set_option linter.unusedSimpArgs false
/-- a number put into a list, from the right, ahead of all from which it is to be moved away -/
def insK (p:Int -> Int -> Bool) (n:Int) (l:List Int):List Int:=(l.reverse.dropWhile (p n)).reverse ++ n :: (l.reverse.takeWhile (p n)).reverse
theorem Sz {p:Int -> Int -> Bool} {n:Int} {A B:List Int} (hB:∀ x ∈ B,p n x = true) (hA:∀ A' y,A = A' ++ [y] -> p n y = false):insK p n (A ++ B) = A ++ n :: B:=by
 unfold insK
 have hB':∀ x ∈ B.reverse,p n x = true:=fun x hx => hB x (by simpa using hx)
 have h2:A.reverse.takeWhile (p n) = [] /\ A.reverse.dropWhile (p n) = A.reverse:=by
  rcases List.eq_nil_or_concat A with rfl | ⟨A',y,rfl⟩
  ·simp
  ·have:=hA A' y (by simp)
   simp [this]
 have h1:(B.reverse ++ A.reverse).takeWhile (p n) = B.reverse /\ (B.reverse ++ A.reverse).dropWhile (p n) = A.reverse:=by
  generalize B.reverse = C at hB'
  induction C with
  | nil => simpa using h2
  | cons c C ih =>
   have hc:=hB' c (by simp)
   obtain ⟨i1,i2⟩:=ih fun x hx => hB' x (by simp [hx])
   simp [hc,i1,i2]
 rw [List.reverse_append,h1.1,h1.2]
 simp
theorem Aax (p:Int -> Int -> Bool) (n:Int) (l:List Int):List.Perm (insK p n l) (n :: l):=by
 unfold insK
 have h:l = (l.reverse.dropWhile (p n)).reverse ++ (l.reverse.takeWhile (p n)).reverse:=by
  rw [<- List.reverse_append,List.takeWhile_append_dropWhile,List.reverse_reverse]
 refine List.perm_middle.trans ?_
 rw [<- h]
def srtK (p:Int -> Int -> Bool) (l:List Int):List Int:=l.foldl (fun out x => insK p x out) []
theorem U7 (p:Int -> Int -> Bool) (l:List Int):List.Perm (srtK p l) l:=by
 have:∀ (l out:List Int),List.Perm (l.foldl (fun out x => insK p x out) out) (out ++ l):=by
  intro l
  induction l with
  | nil => intro out; simp
  | cons x l ih =>
   intro out
   simp only [List.foldl_cons]
   refine (ih _).trans ?_
   refine ((Aax p x out).append_right l).trans ?_
   exact (List.perm_middle (a:=x) (l₁:=out) (l₂:=l)).symm
 have:=this l []
 simpa [srtK] using this
theorem Rd (p:Int -> Int -> Bool) (l:List Int):(srtK p l).length = l.length:=(U7 p l).length_eq
theorem Aai (p:Int -> Int -> Bool) (l:List Int) (x:Int):srtK p (l ++ [x]) = insK p x (srtK p l):=by
 unfold srtK
 rw [List.foldl_append]
 rfl
theorem Yq {p:Int -> Int -> Bool} {l:List Int} {x:Int} (h:x ∈ srtK p l):x ∈ l:=(U7 p l).mem_iff.1 h
theorem Ra {α:Type} (A:List α) (x:α) (B:List α):getI (A ++ x :: B) (A.length:Int) = some x:=by
 rw [Ht,List.getElem?_append_right (Nat.le_refl _)]
 simp
theorem We {α:Type} (x:α) (B:List α) (f:α -> α):∀ (A:List α),setI (A ++ x :: B) (A.length:Int) f = A ++ f x :: B:=fun A => by
 rw [Ab4]
 induction A with
 | nil => rfl
 | cons a A ih => simp [List.modify_succ_cons,ih]
/-- the last number finds its place -/
theorem Zf (cmpF:D_Step -> Option Int) (p:Int -> Int -> Bool) (l rest:List Int) (n:Int) (m:Int) (hl:l.length <= 1000) (hc:∀ y ∈ l,∃ k,cmpF (n,y,()) = some k /\ ltZ k 0 = p n y) :
  ∃ b j,∀ A:Type,loopN (A:=A) big Aq ((l.length:Int),(l.length:Int),m,0,cmpF,l ++ n :: rest,()) = some (.exit (Sum.inl (b,j,(l.length:Int),m,0,cmpF,insK p n l ++ rest,()))):=by
 rcases Qd (F:=Aq) (fun k (a:List Int × List Int) => ((a.1.length:Int),(l.length:Int),m,0,cmpF,a.1 ++ n :: (a.2 ++ rest),())) l.length (fun k a => a.1 ++ a.2 = l /\ a.1.length + k = l.length /\ ∀ x ∈ a.2,p n x = true)
  (fun b => ∃ b0 j,b = Sum.inl (b0,j,(l.length:Int),m,0,cmpF,insK p n l ++ rest,())) (fun _ => False) (by omega)
  (fun k a hk hI => by
   obtain ⟨A,B⟩:=a
   obtain ⟨h1,h2,h3⟩:=hI
   simp only at h1 h2 h3
   rcases List.eq_nil_or_concat A with rfl | ⟨A',y,rfl⟩
   ·refine .inr (.inl ⟨_,?_,false,0,rfl⟩)
    have e:insK p n l = n :: B:=by
     have:=Sz (p:=p) (n:=n) (A:=[]) (B:=B) h3 (by simp)
     rw [<- h1]; exact this
    have e0:ltZ 0 ((([]:List Int).length:Nat):Int) = false:=rfl
    unfold Aq
    simp only [e0,Bool.false_eq_true,if_false,Ab,e]
    rfl
   ·have hj:(A'.concat y).length = A'.length + 1:=by simp
    have hd:A'.concat y ++ n :: (B ++ rest) = (A' ++ [y]) ++ n :: (B ++ rest):=by simp
    have hd2:(A' ++ [y]) ++ n :: (B ++ rest) = A' ++ y :: (n :: (B ++ rest)):=by simp
    have g1:getI ((A' ++ [y]) ++ n :: (B ++ rest)) ((A'.length + 1:Nat):Int) = some n:=by
     have:=Ra (A' ++ [y]) n (B ++ rest)
     rw [show (A' ++ [y]).length = A'.length + 1 by simp] at this
     exact this
    have g2:getI ((A' ++ [y]) ++ n :: (B ++ rest)) (A'.length:Int) = some y:=by
     rw [hd2]; exact Ra A' y (n :: (B ++ rest))
    have g3:setI ((A' ++ [y]) ++ n :: (B ++ rest)) ((A'.length + 1:Nat):Int) (fun _ => y) = A' ++ y :: (y :: (B ++ rest)):=by
     have:=We n (B ++ rest) (fun _ => y) (A' ++ [y])
     rw [show (A' ++ [y]).length = A'.length + 1 by simp] at this
     rw [this]; simp
    have g4:getI (A' ++ y :: (y :: (B ++ rest))) (A'.length:Int) = some y:=Ra A' y (y :: (B ++ rest))
    have g5:setI (A' ++ y :: (y :: (B ++ rest))) (A'.length:Int) (fun _ => n) = A' ++ n :: (y :: (B ++ rest)):=We y (y :: (B ++ rest)) (fun _ => n) A'
    have e0:ltZ 0 ((A'.length + 1:Nat):Int) = true:=by rw [ltZ_iff]; omega
    have e1:=P8 A'.length (by have:=hj; omega)
    obtain ⟨c,hc1,hc2⟩:=hc y (by rw [<- h1]; simp)
    rcases tf (p n y) with q | q
    ·refine .inr (.inl ⟨_,?_,false,((A'.length + 1:Nat):Int),rfl⟩)
     have es:insK p n l = (A' ++ [y]) ++ n :: B:=by
      have:=Sz (p:=p) (n:=n) (A:=A' ++ [y]) (B:=B) h3 (fun A'' y' e => by
       have:=List.append_inj_right' e (by simp)
       simp at this
       rw [<- this]; exact q)
      rw [<- this,<- h1]
      simp
     unfold Aq
     simp only [hj,hd,e0,if_true,g1,g2,e1,Ab,hc1,hc2,q,Bool.false_eq_true,if_false,es]
     simp
    ·refine .inl ⟨(A',y :: B),by omega,?_,?_,?_,?_⟩
     ·unfold Aq
      simp only [hj,hd,e0,if_true,g1,g2,e1,Ab,hc1,hc2,q,g3,g4,g5]
      simp
     ·rw [<- h1]; simp
     ·simp only at h2 ⊢
      omega
     ·intro x hx
      rcases List.mem_cons.1 hx with rfl | hx
      ·exact q
      ·exact h3 x hx)
  (a:=(l,[])) (s:=((l.length:Int),(l.length:Int),m,0,cmpF,l ++ n :: rest,())) (by simp) ⟨by simp,by simp,by simp⟩ with ⟨b,e,b0,j,rfl⟩ | ⟨_,_,hf⟩
 ·exact ⟨b0,j,e⟩
 ·exact hf.elim
theorem Aam (cmpF:D_Step -> Option Int) (p:Int -> Int -> Bool) (l:List Int) (hl:l.length <= 19) (hc:∀ x ∈ l,∀ y ∈ l,∃ k,cmpF (x,y,()) = some k /\ ltZ k 0 = p x y) (u:Unit) :
  Az (l,0,(l.length:Int),cmpF,u) () = some ((),srtK p l):=by
 by_cases h0:l = []
 ·subst h0
  have l1:∀ A:Type,loopN (A:=A) big Ar (1,0,0,cmpF,[],()) = some (.exit (Sum.inl (false,1,0,0,cmpF,[],()))):=fun A => by
   have:Ar (1,0,0,cmpF,[],()) = some (.exit (Sum.inl (false,1,0,0,cmpF,[],()))):=rfl
   have hb:∃ n,big = n + 1:=⟨18446744073709551615,rfl⟩
   obtain ⟨n,hn⟩:=hb
   rw [hn]
   simp only [loopN,this]
   rfl
  have ha:addZ .i64 0 1 = 1:=rfl
  unfold Az
  simp only [ha,List.length_nil,show (((0:Nat)):Int) = 0 from rfl,l1,Ab]
  rfl
 have hpos:0 < l.length:=by cases l with | nil => exact absurd rfl h0 | cons _ _ => simp
 have hone:∀ x,insK p x [] = [x]:=fun x => by simp [insK]
 rcases Qd (F:=Ar) (fun k (a:List Int) => (((k + 1:Nat):Int),(l.length:Int),0,cmpF,a,())) (l.length - 1) (fun k a => a = srtK p (l.take (k + 1)) ++ l.drop (k + 1))
  (fun b => ∃ b0 j,b = Sum.inl (b0,j,(l.length:Int),0,cmpF,srtK p l,())) (fun _ => False) (by omega)
  (fun k a hk hI => by
   subst hI
   by_cases hlt:k + 1 < l.length
   ·have hlen:(srtK p (l.take (k + 1))).length = k + 1:=by rw [Rd,List.length_take]; omega
    have hdr:l.drop (k + 1) = l[k + 1] :: l.drop (k + 2):=List.drop_eq_getElem_cons hlt
    obtain ⟨b,j,e⟩:=Zf cmpF p (srtK p (l.take (k + 1))) (l.drop (k + 2)) l[k + 1] (l.length:Int) (by omega) (fun y hy => hc _ (List.getElem_mem hlt) _ (List.mem_of_mem_take (Yq hy)))
    rw [hlen] at e
    have hs:insK p l[k + 1] (srtK p (l.take (k + 1))) = srtK p (l.take (k + 2)):=by
     rw [<- Aai,List.take_succ_eq_append_getElem hlt]
    refine .inl ⟨srtK p (l.take (k + 2)) ++ l.drop (k + 2),by omega,?_,rfl⟩
    unfold Ar
    simp only [lt_yes hlt,if_true,hdr,e,Ab,hs,idxN hlt (show l.length <= 1099511627776 by omega) (Nat.le_refl _)]
   ·obtain rfl:k = l.length - 1:=by omega
    have hk1:l.length - 1 + 1 = l.length:=by omega
    refine .inr (.inl ⟨Sum.inl (false,(l.length:Int),(l.length:Int),0,cmpF,srtK p l,()),?_,false,(l.length:Int),rfl⟩)
    unfold Ar
    simp only [hk1,lt_no,Bool.false_eq_true,if_false,List.take_length,List.drop_length,List.append_nil])
  (a:=l) (s:=(1,(l.length:Int),0,cmpF,l,())) rfl (by
   cases l with
   | nil => exact absurd rfl h0
   | cons x l => simp [srtK,hone]) with ⟨b,e,b0,j,rfl⟩ | ⟨_,_,hf⟩
 ·have ha:addZ .i64 0 1 = 1:=rfl
  unfold Az
  simp only [ha,e,Ab]
 ·exact hf.elim
theorem loop1K {σ A B C:Type} {F:σ -> Option (Out σ B C)} {s:σ} {b:B} (h:F s = some (.exit b)):loopN (A:=A) big F s = some (.exit b):=by
 have hb:∃ n,big = n + 1:=⟨18446744073709551615,rfl⟩
 obtain ⟨n,hn⟩:=hb
 rw [hn]
 simp only [loopN,h]
 rfl
theorem Uf (cmpF:D_Step -> Option Int) (p:Int -> Int -> Bool) (l:List Int) (hl:l.length <= 19) (hc:∀ x ∈ l,∀ y ∈ l,∃ k,cmpF (x,y,()) = some k /\ ltZ k 0 = p x y) (u:Unit) :
  Bv (l,cmpF,u) () = some ((),srtK p l):=by
 have h0:leZ 20 (l.length:Int) = false:=by rw [Bool.eq_false_iff,Ne,leZ_iff]; omega
 have h1:ltZ 20 (l.length:Int) = false:=by rw [Bool.eq_false_iff,Ne,ltZ_iff]; omega
 have e0:∀ A:Type,loopN (A:=A) big Dl (20,0,20,(l.length:Int),cmpF,l,()) = some (.exit (Sum.inl (false,20,0,20,(l.length:Int),cmpF,l,()))):=fun A => loop1K (by
  unfold Dl
  simp only [h0,Bool.false_eq_true,if_false])
 have e2:∀ A:Type,∀ z,loopN (A:=A) big Dm (20,(l.length:Int),cmpF,z,()) = some (.exit (Sum.inl (false,20,(l.length:Int),cmpF,z,()))):=fun A z => loop1K (by
  unfold Dm
  simp only [h1,Bool.false_eq_true,if_false])
 unfold Bv Fb
 simp only [lenI_eq,e0,Ab,Aam cmpF p l hl hc,e2]
theorem Zh (x y:Int) (u:Unit):∃ k,I8 (x,y,u) () = some (k,()) /\ ltZ k 0 = ltZ x y:=by
 have e:∀ x u,Jg (x,u) () = some (false,()):=fun x u => by
  unfold Jg
  simp [Cm,notB]
 unfold I8
 simp only [e,Ab,Bool.false_eq_true,if_false]
 rcases tf (ltZ x y) with h | h
 ·rcases tf (ltZ y x) with h' | h'
  ·exact ⟨0,by simp [h,h'],by rw [h]; rfl⟩
  ·exact ⟨1,by simp [h,h'],by rw [h]; rfl⟩
 ·exact ⟨-1,by simp [h],by rw [h]; rfl⟩
/-- the numbers that belong to the places -/
def keyB (l:List Int) (x y:Int):Bool:=match getI l x,getI l y with | some a,some b => ltZ a b | _,_ => false
open Go.Abs
set_option linter.unusedVariables false
set_option linter.unusedSimpArgs false
/-- a domain that can be used -/
structure UseD (p:Aa) (b:Ae):Prop where
 hp:Af 1099511627776 p
 hb:Le 1099511627776 b
 dom:domB p b = true
 ne:emptyB b = false
 l:BoxL p.2.1.length b
def durM (p:Aa) (b:Ae) (i:Nat):Int:=match p.2.1[i]? with | some a => lstV (fun m => m.1) a (moB b i) | none => 0
def needM (p:Aa) (b:Ae) (j i:Nat):Int:=match p.2.1[i]? with | some a => lstV (atV false (j:Int)) a (moB b i) | none => 0
def setM (p:Aa) (j b c:Nat):Int:=match p.2.2.2.1[j]?,p.2.1[b]?,p.2.1[c]? with
 | some r,some x,some y => ((getI r.2.1 x.2.1).bind fun row => getI row y.2.1).getD 0
 | _,_,_ => 0
def aftM (p:Aa) (b:Ae) (j c d:Nat):Int:=mnB b c + durM p b c + setM p j c d
theorem UseD.use {p:Aa} {b:Ae} (h:UseD p b):useB p b = true:=by unfold useB; rw [h.dom,h.ne]; rfl
theorem UseD.rng {p:Aa} {b:Ae} (h:UseD p b) {i:Nat} (hi:i < p.2.1.length):-2 <= mnB b i /\ mnB b i <= 62 /\ -2 <= mxB b i /\ mxB b i <= 62 /\ (moB b i).length <= 1099511627776:=by
 obtain ⟨x,y,m,g1,g2,g3,hm,x1,x2,y1,y2,-,-⟩:=dom_at h.dom hi
 obtain ⟨k1,k2,k3⟩:=h.l.get hi
 rw [k1] at g1
 rw [k2] at g2
 rw [k3] at g3
 cases g1
 cases g2
 cases g3
 exact ⟨x1,x2,y1,y2,(h.hb.2.2.1.2 _ hm).1⟩
theorem UseD.dur {p:Aa} {b:Ae} (h:UseD p b) {i:Nat} (hi:i < p.2.1.length) (u:Unit):Ef (p,b,(i:Int),u) () = some (durM p b i,()):=by
 have hpj:=Li h.dom
 have ha:=Yl hpj hi
 obtain ⟨-,-,k3⟩:=h.l.get hi
 have hm:=(h.rng hi).2.2.2.2
 unfold Ef durM
 rw [List.getElem?_eq_getElem hi]
 simp only [getI_lt hi,k3,Ib _ _ _ (show p.2.1[i].2.2.1.length <= 1000000 by omega) hm,dur_lst,Ab]
theorem durM_in {p:Aa} (hpj:projB p = true) (b:Ae) {i:Nat} (hi:i < p.2.1.length):0 <= durM p b i /\ durM p b i <= 12:=by
 unfold durM
 rw [List.getElem?_eq_getElem hi]
 exact lstV_in _ (by omega) (by omega) fun m hm => by
  obtain ⟨h1,h2,-⟩:=Kw hpj hi m hm
  omega
theorem UseD.need {p:Aa} {b:Ae} (h:UseD p b) {i j:Nat} (hi:i < p.2.1.length) (hj:j < p.2.2.2.1.length):(∀ u,Hh (p.2.1[i],moB b i,(j:Int),u) () = some (needM p b j i,())) /\ ∀ u,Gn (p,b,(j:Int),(i:Int),u) () = some (needM p b j i,()):=by
 have hpj:=Li h.dom
 have ha:=Yl hpj hi
 obtain ⟨-,-,k3⟩:=h.l.get hi
 have hm:=(h.rng hi).2.2.2.2
 obtain ⟨-,e2⟩:=Ue p.2.1[i] (moB b i) (j:Int) (by omega) hm (fun md hmd => by
  have:=Of h.hp hpj hi hj md hmd
  exact ⟨this.1,this.2.1⟩)
 have e3:∀ u,Hh (p.2.1[i],moB b i,(j:Int),u) () = some (needM p b j i,()):=fun u => by
  unfold needM
  rw [List.getElem?_eq_getElem hi]
  exact e2 u
 refine ⟨e3,fun u => ?_⟩
 unfold Gn
 simp only [N3 _ _ _ h.hp h.hb,h.use,H0,inB_atP h.hp.2.1.1 hi,M8,inB_atP h.hp.2.2.2.1.1 hj,Ak,Bool.false_eq_true,if_false,Ab,getI_lt hi,k3,e3]
theorem Lg {p:Aa} (hp:Af 1099511627776 p) (h:projB p = true) {j b c:Nat} (hj:j < p.2.2.2.1.length) (h0:0 < p.2.2.2.1[j].2.1.length) (hb:b < p.2.1.length) (hc:c < p.2.1.length) :
  (∀ u,Cp (p,(j:Int),(b:Int),(c:Int),u) () = some (setM p j b c,())) /\ 0 <= setM p j b c /\ setM p j b c <= 12:=by
 obtain ⟨row,n,r1,r2,n0,n1⟩:=Abq h hj h0 hb hc
 have e:setM p j b c = n:=by
  unfold setM
  rw [List.getElem?_eq_getElem hj,List.getElem?_eq_getElem hb,List.getElem?_eq_getElem hc]
  simp only [r1,r2,Option.bind_some,Option.getD_some]
 rw [e]
 exact ⟨fun u => Oz hp h u hj h0 hb hc r1 r2,n0,n1⟩
def bothM (p:Aa) (b:Ae) (j c d:Nat):Bool:=notB (eqZ (c:Int) (d:Int)) && (ltZ 0 (needM p b j c) && ltZ 0 (needM p b j d))
def canM (p:Aa) (b:Ae) (j c d:Nat):Bool:=notB (eqZ (c:Int) (d:Int)) && leZ (aftM p b j c d) (mxB b d)
/-- the activities that use a machine, by their earliest starts -/
def chainM (p:Aa) (b:Ae) (j:Nat):List Int:=srtK (keyB b.1) ((iotaI p.2.1.length).filter fun a => ltZ 0 (needM p b j a.toNat))
theorem Abi {p:Aa} {b:Ae} {j:Nat} {x:Int} (h:x ∈ chainM p b j):∃ i:Nat,x = (i:Int) /\ i < p.2.1.length /\ 0 < needM p b j i:=by
 obtain ⟨h1,h2⟩:=List.mem_filter.1 (Yq h)
 obtain ⟨i,rfl,hi⟩:=H3 h1
 rw [ltZ_iff] at h2
 exact ⟨i,rfl,hi,h2⟩
theorem Rz {p:Aa} {b:Ae} (h:UseD p b) {j:Nat} (hj:j < p.2.2.2.1.length) (h0:0 < p.2.2.2.1[j].2.1.length) (u:Unit) :
  Dh (p,b,(j:Int),u) () = some (chainM p b j,()):=by
 have hM:machBP p (j:Int) = true:=by rw [Q9 h.hp hj,ltZ_iff,lenI_eq]; omega
 have hn:=Te (Li h.dom)
 have hk:=fun f hf u => kept_eq (iotaI p.2.1.length) f (fun a => ltZ 0 (needM p b j a.toNat)) u (by rw [B0]; omega) hf
 have hlen:=List.length_filter_le (fun a => ltZ 0 (needM p b j a.toNat)) (iotaI p.2.1.length)
 rw [B0] at hlen
 have hc:∀ x ∈ (iotaI p.2.1.length).filter (fun a => ltZ 0 (needM p b j a.toNat)),∀ y ∈ (iotaI p.2.1.length).filter (fun a => ltZ 0 (needM p b j a.toNat)),∃ k,(fun v6 => (Option.bind (Dk v6 (b,())) fun v7 => (some v7.1)):D_Step -> Option Int) (x,y,()) = some k /\ ltZ k 0 = keyB b.1 x y:=fun x hx y hy => by
  obtain ⟨i,rfl,hi⟩:=H3 (List.mem_filter.1 hx).1
  obtain ⟨i',rfl,hi'⟩:=H3 (List.mem_filter.1 hy).1
  obtain ⟨g1,-⟩:=h.l.get hi
  obtain ⟨g2,-⟩:=h.l.get hi'
  obtain ⟨k,hk,hk2⟩:=Zh (mnB b i) (mnB b i') ()
  refine ⟨k,?_,?_⟩
  ·unfold Dk
   simp only [g1,g2,Ab,hk]
  ·rw [hk2]
   unfold keyB
   simp only [g1,g2]
 have hso:=fun u => Uf (fun v6 => (Option.bind (Dk v6 (b,())) fun v7 => (some v7.1))) (keyB b.1) ((iotaI p.2.1.length).filter (fun a => ltZ 0 (needM p b j a.toNat))) (by omega) hc u
 unfold Dh J5
 simp only [N3 _ _ _ h.hp h.hb,h.use,Iv,La _ _ _ h.hp,hM,if_true,Ab,Ak,Bool.false_eq_true,if_false,lenI_eq,Oc _ _ (show p.2.1.length <= 200 by omega)]
 rw [hk _ (fun a ha => by
  obtain ⟨i,rfl,hi⟩:=H3 ha
  unfold In
  simp only [(h.need hi hj).2,Ab,Int.toNat_natCast])]
 simp only [Ab,hso]
 rfl
open Go.Abs
set_option linter.unusedVariables false
set_option linter.unusedSimpArgs false
theorem Ff {p:Aa} {s:Ac} (h:formB p s = true):SchL p.2.1.length s:=by
 unfold formB at h
 simp only [Bool.and_eq_true] at h
 exact ⟨Iu h.1.1.2,Iu h.1.2⟩
structure InD (p:Aa) (b:Ae) (s:Ac) (i:Nat):Prop where
 mn:mnB b i <= tsS s i
 mx:tsS s i <= mxB b i
 t0:0 <= tsS s i
 t1:tsS s i <= 60
 e:tsS s i + durM p b i <= endV p s (i:Int)
 e1:endV p s (i:Int) <= 72
 u:∀ j,j < p.2.2.2.1.length -> needM p b j i <= useOf p s (j:Int) (i:Int)
 g:getI s.1 (i:Int) = some (tsS s i)
/-- a schedule of the right form within a domain -/
theorem in_dom {p:Aa} {b:Ae} {s:Ac} (h:UseD p b) (hf:formB p s = true) (hc:conB b s = true) {i:Nat} (hi:i < p.2.1.length):InD p b s i:=by
 have hs:=Ff hf
 obtain ⟨c1,c2,c3⟩:=(con_iff h.l hs).1 hc i hi
 obtain ⟨t,m,md,g1,g2,g3,hm,t0,t6,-,-⟩:=form_at h.hp hf hi
 obtain ⟨k1,k2⟩:=hs.get hi
 rw [k1] at g1
 rw [k2] at g2
 have et:t = tsS s i:=(Option.some.inj g1).symm
 have em:ksS s i = (m:Int):=Option.some.inj g2
 subst et
 have hml:m < p.2.1[i].2.2.1.length:=by
  rw [Ht] at g3
  exact (List.getElem?_eq_some_iff.1 g3).1
 have hmd:md = p.2.1[i].2.2.1[m]:=by
  rw [getI_lt hml] at g3
  exact (Option.some.inj g3).symm
 rw [em] at c3
 have he:endV p s (i:Int) = addZ .i64 (tsS s i) md.1:=by
  unfold endV
  rw [end_eq (p:=p) (s:=s) () hi (by rw [k1]) (by rw [k2,em]) g3]
 have hpj:=Bc hf
 obtain ⟨d1,d2,-⟩:=Kw hpj hi _ (List.getElem_mem hml)
 rw [<- hmd] at d1 d2
 rw [addZ64 (by omega) (by omega)] at he
 have hd:durM p b i <= md.1:=by
  unfold durM
  rw [List.getElem?_eq_getElem hi,hmd]
  exact lstV_le (fun m => m.1) hml c3
 refine ⟨c1,c2,t0,t6,by omega,by omega,fun j hj => ?_,k1⟩
 have hu:useOf p s (j:Int) (i:Int) = atV false (j:Int) md:=by
  unfold useOf
  rw [mode_eq (p:=p) (s:=s) () hi (by rw [k2,em]) g3]
  unfold atV
  simp only [Bool.false_eq_true,if_false]
 rw [hu,hmd]
 unfold needM
 rw [List.getElem?_eq_getElem hi]
 exact lstV_le (atV false (j:Int)) hml c3
theorem Abg {p:Aa} {s:Ac} (hp:Af 1099511627776 p) (h:formB p s = true) {j b c:Nat} (hj:j < p.2.2.2.1.length) (hpos:0 < p.2.2.2.1[j].2.1.length) (hb:b < p.2.1.length) (hc:c < p.2.1.length) :
  failB p s (pairR j b c) = (if eqZ (useOf p s (j:Int) (b:Int)) 0 = true then false else if eqZ (useOf p s (j:Int) (c:Int)) 0 = true then false else if leZ (addZ .i64 (endV p s (b:Int)) (setM p j b c)) (tsS s c) = true then false else notB (leZ (addZ .i64 (endV p s (c:Int)) (setM p j c b)) (tsS s b))):=by
 have h0:=Bc h
 have hs:=Ff h
 have z1:eqZ 5 1 = false:=rfl
 have z2:eqZ 5 2 = false:=rfl
 have z3:eqZ 5 3 = false:=rfl
 have z4:eqZ 5 4 = false:=rfl
 have z5:eqZ 5 5 = true:=rfl
 obtain ⟨x,e,md,-,-,gm,-,-,-,-,-,gr,gu⟩:=run_at hp h hb
 obtain ⟨x',e',md',-,-,gm',-,-,-,-,-,gr',gu'⟩:=run_at hp h hc
 have ge:=(endV_at hp h hb).1
 have ge':=(endV_at hp h hc).1
 obtain ⟨g1,-⟩:=hs.get hb
 obtain ⟨g1',-⟩:=hs.get hc
 have e1:∀ {a d:Nat} {row:List Int} {n:Int} (ha:a < p.2.1.length) (hd:d < p.2.1.length),getI p.2.2.2.1[j].2.1 p.2.1[a].2.1 = some row -> getI row p.2.1[d].2.1 = some n -> setM p j a d = n:=fun {a d row n} ha hd r1 r2 => by
  unfold setM
  rw [List.getElem?_eq_getElem hj,List.getElem?_eq_getElem ha,List.getElem?_eq_getElem hd]
  simp only [r1,r2,Option.bind_some,Option.getD_some]
 obtain ⟨row,n,s1,s2,-⟩:=Qe h0 hj hpos hb hc
 obtain ⟨row',n',s1',s2',-⟩:=Qe h0 hj hpos hc hb
 rw [e1 hb hc s1 s2,e1 hc hb s1' s2']
 have A1:=fun u => K4 (p:=p) (s:=s) u hj hb hc s1 s2 ge g1'
 have A2:=fun u => K4 (p:=p) (s:=s) u hj hc hb s1' s2' ge' g1
 have key:∀ u,Bn (p,s,pairR j b c,u) () = some ((if eqZ (useOf p s (j:Int) (b:Int)) 0 = true then false else if eqZ (useOf p s (j:Int) (c:Int)) 0 = true then false else if leZ (addZ .i64 (endV p s (b:Int)) n) (tsS s c) = true then false else notB (leZ (addZ .i64 (endV p s (c:Int)) n') (tsS s b))),()):=fun u => by
  unfold Bn M7 pairR
  simp only [z1,z2,z3,z4,z5,if_true,Bool.false_eq_true,if_false,Ab,gm,gm',gu j hj,gu' j hj]
  rcases tf (eqZ (useOf p s (j:Int) (b:Int)) 0) with h1 | h1 <;> rcases tf (eqZ (useOf p s (j:Int) (c:Int)) 0) with h2 | h2 <;> rcases tf (leZ (addZ .i64 (endV p s (b:Int)) n) (tsS s c)) with h3 | h3 <;> simp [notB,h1,h2,h3,gm',gu' j hj,A1,A2]
 unfold failB
 rw [key]
theorem Yr {p:Aa} {b:Ae} {s:Ac} (h:UseD p b) (ho:okV p s = true) (hc:conB b s = true) {j c d:Nat} (hj:j < p.2.2.2.1.length) (hpos:0 < p.2.2.2.1[j].2.1.length) (hlt:c < d) (hd:d < p.2.1.length) (n1:0 < needM p b j c) (n2:0 < needM p b j d) :
  endV p s (c:Int) + setM p j c d <= tsS s d \/ endV p s (d:Int) + setM p j d c <= tsS s c:=by
 have hf:=Di ho
 have hpj:=Bc hf
 have hcl:c < p.2.1.length:=by omega
 have hI:=in_dom h hf hc hcl
 have hI':=in_dom h hf hc hd
 have u1:=hI.u j hj
 have u2:=hI'.u j hj
 have hF:=ok_rule ho ((Vx h.hp hpj).2.1 j c d hj hpos hlt hd)
 rw [Abg h.hp hf hj hpos hcl hd] at hF
 obtain ⟨-,s1,s2⟩:=Lg h.hp hpj hj hpos hcl hd
 obtain ⟨-,s1',s2'⟩:=Lg h.hp hpj hj hpos hd hcl
 have f1:eqZ (useOf p s (j:Int) (c:Int)) 0 = false:=eqZ_ne (by omega)
 have f2:eqZ (useOf p s (j:Int) (d:Int)) 0 = false:=eqZ_ne (by omega)
 have a1:=hI.e
 have a2:=hI'.e
 have b1:=hI.e1
 have b2:=hI'.e1
 have t1:=hI.t0
 have t2:=hI'.t0
 have m1:=(durM_in hpj b hcl).1
 have m2:=(durM_in hpj b hd).1
 rw [f1,f2,addZ64 (x:=endV p s (c:Int)) (by omega) (by omega),addZ64 (x:=endV p s (d:Int)) (by omega) (by omega)] at hF
 simp only [Bool.false_eq_true,if_false] at hF
 by_cases q:leZ (endV p s (c:Int) + setM p j c d) (tsS s d) = true
 ·rw [leZ_iff] at q; exact .inl q
 ·rw [if_neg q,Nt,Bool.not_eq_false',leZ_iff] at hF
  exact .inr hF
/-- for two different activities -/
theorem Aaj {p:Aa} {b:Ae} {s:Ac} (h:UseD p b) (ho:okV p s = true) (hc:conB b s = true) {j c d:Nat} (hj:j < p.2.2.2.1.length) (hpos:0 < p.2.2.2.1[j].2.1.length) (hcl:c < p.2.1.length) (hd:d < p.2.1.length) (hne:c ≠ d) (n1:0 < needM p b j c) (n2:0 < needM p b j d) :
  endV p s (c:Int) + setM p j c d <= tsS s d \/ endV p s (d:Int) + setM p j d c <= tsS s c:=by
 by_cases hlt:c < d
 ·exact Yr h ho hc hj hpos hlt hd n1 n2
 ·exact (Yr h ho hc hj hpos (show d < c by omega) hcl n2 n1).symm
theorem Ng (f:Int -> Int):∀ (l:List Int) (m:Int),m <= l.foldl (fun m a => maxI m (f a)) m /\ ∀ x ∈ l,f x <= l.foldl (fun m a => maxI m (f a)) m
 | [],m => ⟨Int.le_refl _,fun x hx => absurd hx (by simp)⟩
 | a :: l,m => by
  rw [List.foldl_cons]
  obtain ⟨h1,h2⟩:=Ng f l (maxI m (f a))
  have h3:m <= maxI m (f a) /\ f a <= maxI m (f a):=by unfold maxI; split <;> omega
  refine ⟨by omega,fun x hx => ?_⟩
  rcases List.mem_cons.1 hx with rfl | hx
  ·omega
  ·exact h2 x hx
theorem span_ge (p:Aa) (s:Ac) {i:Nat} (hi:i < p.2.1.length):endV p s (i:Int) <= spanV p s:=(Ng (endV p s) (iotaI p.2.1.length) 0).2 _ (List.mem_map.2 ⟨i,List.mem_range.2 hi,rfl⟩)
theorem Ll (p:Aa) (s:Ac):0 <= spanV p s:=(Ng (endV p s) (iotaI p.2.1.length) 0).1
open Go.Abs
set_option linter.unusedVariables false
set_option linter.unusedSimpArgs false
theorem chain2 {p:Aa} {b:Ae} (h:UseD p b) (j:Nat) (h2:p.2.1.length <= 2) :
  chainM p b j = [] \/ (∃ x:Nat,x < p.2.1.length /\ chainM p b j = [(x:Int)]) \/ ∃ x y:Nat,x < p.2.1.length /\ y < p.2.1.length /\ x ≠ y /\ chainM p b j = [(x:Int),(y:Int)] /\ mnB b x <= mnB b y /\ 0 < needM p b j x /\ 0 < needM p b j y:=by
 have hn:=Te (Li h.dom)
 have s1:∀ x:Int,srtK (keyB b.1) [x] = [x]:=fun x => rfl
 have hkey:∀ {x y:Nat},x < p.2.1.length -> y < p.2.1.length -> keyB b.1 (x:Int) (y:Int) = ltZ (mnB b x) (mnB b y):=fun {x y} hx hy => by
  unfold keyB
  simp only [(h.l.get hx).1,(h.l.get hy).1]
 have s2:∀ x y:Int,srtK (keyB b.1) [x,y] = if keyB b.1 y x = true then [y,x] else [x,y]:=fun x y => by
  unfold srtK
  simp only [List.foldl_cons,List.foldl_nil]
  unfold insK
  rcases tf (keyB b.1 y x) with q | q <;> simp [q,List.dropWhile,List.takeWhile]
 have hq:∀ i:Nat,ltZ 0 (needM p b j ((i:Nat):Int).toNat) = true ↔ 0 < needM p b j i:=fun i => by rw [ltZ_iff,Int.toNat_natCast]
 unfold chainM
 rcases (show p.2.1.length = 1 \/ p.2.1.length = 2 by omega) with e | e
 ·rw [e]
  have i1:iotaI 1 = [((0:Nat):Int)]:=rfl
  rw [i1]
  rcases tf (ltZ 0 (needM p b j ((0:Nat):Int).toNat)) with q0 | q0
  ·refine .inl ?_
   simp only [List.filter_cons,q0,Bool.false_eq_true,if_false,List.filter_nil]
   rfl
  ·refine .inr (.inl ⟨0,by omega,?_⟩)
   simp only [List.filter_cons,q0,if_true,List.filter_nil,s1]
 ·rw [e]
  have i2:iotaI 2 = [((0:Nat):Int),((1:Nat):Int)]:=rfl
  rw [i2]
  rcases tf (ltZ 0 (needM p b j ((0:Nat):Int).toNat)) with q0 | q0 <;> rcases tf (ltZ 0 (needM p b j ((1:Nat):Int).toNat)) with q1 | q1
  ·refine .inl ?_
   simp only [List.filter_cons,q0,q1,Bool.false_eq_true,if_false,List.filter_nil]
   rfl
  ·refine .inr (.inl ⟨1,by omega,?_⟩)
   simp only [List.filter_cons,q0,q1,Bool.false_eq_true,if_false,if_true,List.filter_nil,s1]
  ·refine .inr (.inl ⟨0,by omega,?_⟩)
   simp only [List.filter_cons,q0,q1,Bool.false_eq_true,if_false,if_true,List.filter_nil,s1]
  ·have n0:=(hq 0).1 q0
   have n1:=(hq 1).1 q1
   simp only [List.filter_cons,q0,q1,if_true,List.filter_nil,s2]
   rw [hkey (show 1 < p.2.1.length by omega) (show 0 < p.2.1.length by omega)]
   rcases tf (ltZ (mnB b 1) (mnB b 0)) with q | q
   ·refine .inr (.inr ⟨0,1,by omega,by omega,by omega,by rw [q]; rfl,?_,n0,n1⟩)
    rw [Bool.eq_false_iff,Ne,ltZ_iff] at q
    omega
   ·refine .inr (.inr ⟨1,0,by omega,by omega,by omega,by rw [q]; rfl,?_,n1,n0⟩)
    rw [ltZ_iff] at q
    omega
theorem Aa9 {p:Aa} {b:Ae} (j:Nat):(chainM p b j).length <= p.2.1.length:=by
 unfold chainM
 rw [Rd]
 have:=List.length_filter_le (fun a => ltZ 0 (needM p b j a.toNat)) (iotaI p.2.1.length)
 rw [B0] at this
 exact this
def setF (p:Aa) (j:Nat) (a:Int) (s:Bool × Int) (o:Int):Bool × Int:=if (notB (eqZ o a) && (notB s.1 || ltZ (setM p j o.toNat a.toNat) s.2)) = true then (true,setM p j o.toNat a.toNat) else s
def setW (p:Aa) (j:Nat) (c:List Int) (a:Int):Int:=(c.foldl (setF p j a) (false,0)).2
def sumF (p:Aa) (b:Ae) (j:Nat) (c:List Int) (s:Int × Int) (a:Int):Int × Int:=(addZ .i64 s.1 (addZ .i64 (durM p b a.toNat) (setW p j c a)),maxI s.2 (setW p j c a))
def boundV (p:Aa) (b:Ae) (j:Nat):Int:=match chainM p b j with
 | [] => 0
 | x :: c => subZ .i64 (((x :: c).foldl (sumF p b j (x :: c)) (mnB b x.toNat,0)).1) (((x :: c).foldl (sumF p b j (x :: c)) (mnB b x.toNat,0)).2)
theorem R0 {p:Aa} {b:Ae} (h:UseD p b) {j:Nat} (hj:j < p.2.2.2.1.length) (h0:0 < p.2.2.2.1[j].2.1.length) (u:Unit) :
  Ch (p,b,(j:Int),u) () = some (boundV p b j,()):=by
 have hpj:=Li h.dom
 have hcl:=Aa9 (p:=p) (b:=b) j
 have hle:=h.hp.2.1.1
 have hm:∀ x ∈ chainM p b j,∃ i:Nat,x = (i:Int) /\ i < p.2.1.length:=fun x hx => by
  obtain ⟨i,e,hi,-⟩:=Abi hx
  exact ⟨i,e,hi⟩
 unfold Ch boundV
 simp only [Rz h hj h0,Ab]
 generalize chainM p b j = c at hcl hm
 cases c with
 | nil =>
  have e:eqZ (lenI ([]:List Int)) 0 = true:=rfl
  simp only [e,if_true]
 | cons x c =>
  have e:eqZ (lenI (x :: c)) 0 = false:=eqZ_ne (by rw [lenI_eq]; simp; omega)
  obtain ⟨i,hx,hi⟩:=hm x (by simp)
  have g0:getI (x :: c) 0 = some x:=rfl
  have g1:=(h.l.get hi).1
  rw [<- hx] at g1
  have ex:x.toNat = i:=by rw [hx,Int.toNat_natCast]
  generalize hC:x :: c = C at *
  have inner:=fun (A:Type) (a:Int) (ha:∃ i:Nat,a = (i:Int) /\ i < p.2.1.length) (sum most ii:Int) => (Ee (A:=A) (F:=Ez) (fun k (s:Bool × Int) => ((k:Int),(C.length:Int),[],s.1,sum,a,most,s.2,ii,(C.length:Int),[],C,(j:Int),p,b,())) C (fun _ _ => True) (setF p j a)
   (fun s => Sum.inl (false,(C.length:Int),(C.length:Int),[],s.1,sum,a,most,s.2,ii,(C.length:Int),[],C,(j:Int),p,b,())) (by omega)
   (fun k s hk _ => by
    obtain ⟨o,ho,hol⟩:=hm _ (List.getElem_mem hk)
    obtain ⟨i',ha',hi'⟩:=ha
    have hs:=(Lg h.hp hpj hj h0 hol hi').1
    refine ⟨?_,trivial⟩
    obtain ⟨f,n⟩:=s
    unfold Ez setF
    simp only [lt_yes hk,if_true,getI_lt hk,List.nil_append,List.headD_cons,Ab]
    rw [ho,ha']
    simp only [hs,Ab,Int.toNat_natCast]
    rcases tf (notB (eqZ (o:Int) (i':Int))) with q | q <;> rcases tf f with rfl | rfl <;> rcases tf (ltZ (setM p j o i') n) with q2 | q2 <;> simp [-Int.natCast_add,q,q2,Ak,Dj,idxN hk (Nat.le_refl _) (show C.length <= 1099511627776 by omega)])
   (fun s _ => by
    unfold Ez
    simp only [lt_no,Bool.false_eq_true,if_false])
   (a:=(false,0)) (s:=((0:Int),(C.length:Int),[],false,sum,a,most,0,ii,(C.length:Int),[],C,(j:Int),p,b,())) rfl trivial).1
  have outer:=fun A:Type => (Ee (A:=A) (F:=E9) (fun k (s:Int × Int) => ((k:Int),(C.length:Int),[],C,(j:Int),p,b,s.1,s.2,())) C (fun _ _ => True) (sumF p b j C)
   (fun s => Sum.inl (false,(C.length:Int),(C.length:Int),[],C,(j:Int),p,b,s.1,s.2,())) (by omega)
   (fun k s hk _ => by
    have hk2:=hm _ (List.getElem_mem hk)
    have hin:=fun A sum most ii => inner A C[k] hk2 sum most ii
    obtain ⟨o,ho,hol⟩:=hk2
    have hd:=h.dur hol
    rw [<- ho] at hd
    refine ⟨?_,trivial⟩
    unfold E9 sumF setW
    simp only [lt_yes hk,if_true,getI_lt hk,List.nil_append,List.headD_cons,Ab,lenI_eq,hin,hd]
    simp only [ho,Int.toNat_natCast,idxN hk (Nat.le_refl _) (show C.length <= 1099511627776 by omega)])
   (fun s _ => by
    unfold E9
    simp only [lt_no,Bool.false_eq_true,if_false])
   (a:=(mnB b x.toNat,0)) (s:=((0:Int),(C.length:Int),[],C,(j:Int),p,b,mnB b x.toNat,0,())) rfl trivial).1
  rw [<- ex] at g1
  rw [lenI_eq] at e
  simp only [e,Bool.false_eq_true,if_false,g0,Ab,g1,lenI_eq,outer]
  subst hC
  rfl
theorem Ach {p:Aa} {b:Ae} {s:Ac} (h:UseD p b) (ho:okV p s = true) (hc:conB b s = true) {j:Nat} (hj:j < p.2.2.2.1.length) (hpos:0 < p.2.2.2.1[j].2.1.length) (h2:p.2.1.length <= 2):boundV p b j <= spanV p s:=by
 have hf:=Di ho
 have hpj:=Bc hf
 have z:=Ll p s
 unfold boundV
 rcases chain2 h j h2 with e | ⟨x,hx,e⟩ | ⟨x,y,hx,hy,hne,e,hle,n1,n2⟩
 ·rw [e]; exact z
 ·rw [e]
  have hI:=in_dom h hf hc hx
  have k1:=span_ge p s hx
  have:=hI.mn
  have:=hI.e
  obtain ⟨r1,r2,-⟩:=h.rng hx
  obtain ⟨d1,d2⟩:=durM_in hpj b hx
  have e1:setW p j [(x:Int)] (x:Int) = 0:=by
   unfold setW setF
   simp [Cm,notB]
  simp only [List.foldl_cons,List.foldl_nil,sumF,e1,Int.toNat_natCast]
  rw [addZ64 (x:=durM p b x) (by omega) (by omega),addZ64 (by omega) (by omega)]
  have e2:maxI 0 0 = 0:=rfl
  rw [e2,subZ64 (by omega) (by omega)]
  omega
 ·rw [e]
  have hI:=in_dom h hf hc hx
  have hI':=in_dom h hf hc hy
  have k1:=span_ge p s hx
  have k2:=span_ge p s hy
  obtain ⟨r1,r2,-⟩:=h.rng hx
  obtain ⟨d1,d2⟩:=durM_in hpj b hx
  obtain ⟨d3,d4⟩:=durM_in hpj b hy
  obtain ⟨-,t1,t2⟩:=Lg h.hp hpj hj hpos hx hy
  obtain ⟨-,t3,t4⟩:=Lg h.hp hpj hj hpos hy hx
  have q1:eqZ (x:Int) (y:Int) = false:=V5 hne
  have q2:eqZ (y:Int) (x:Int) = false:=V5 fun e => hne e.symm
  have e1:setW p j [(x:Int),(y:Int)] (x:Int) = setM p j y x:=by
   unfold setW setF
   simp [Cm,q1,q2,notB]
  have e2:setW p j [(x:Int),(y:Int)] (y:Int) = setM p j x y:=by
   unfold setW setF
   simp [Cm,q1,q2,notB]
  simp only [List.foldl_cons,List.foldl_nil,sumF,e1,e2,Int.toNat_natCast]
  rw [addZ64 (x:=durM p b x) (by omega) (by omega),addZ64 (x:=durM p b y) (by omega) (by omega),addZ64 (x:=mnB b x) (by omega) (by omega),addZ64 (by omega) (by omega)]
  have m1:maxI (maxI 0 (setM p j y x)) (setM p j x y) = max (setM p j y x) (setM p j x y):=by
   unfold maxI
   split <;> split <;> omega
  rw [m1,subZ64 (by omega) (by omega)]
  have a1:=hI.mn
  have a2:=hI.e
  have a3:=hI'.e
  rcases Aaj h ho hc hj hpos hx hy hne n1 n2 with s1 | s1
  ·omega
  ·have a4:=hI'.mn
   omega
end Go.Proofs.YteggmejnpcfalaaGreat
