/-
  Plain laws: numbers in a row, lists that hold a number, sets, domains (several small texts in one). Condition: no list is longer than 2 to the 40.
-/
import Derived.Test.YteggmejnpcfalaaGreatl3LCycM
import Derived.Test.YteggmejnpcfalaaGreatl3LPairsM
import Derived.Test.YteggmejnpcfalaaGreatl3LSubA
namespace Go.Proofs.YteggmejnpcfalaaGreat
open Go.Abs
set_option linter.unusedVariables false
set_option linter.unusedSimpArgs false
/-- a loop that keeps something -/
theorem Hn {σ B C α:Type} {F:σ -> Option (Out σ B C)} (emb:Nat -> α -> σ) (n:Nat) (I:Nat -> α -> Prop) (b:α -> B) (hn:n <= 1099511627776)
  (hs:∀ i a,i < n -> I i a -> ∃ a',F (emb i a) = some (.norm (emb (i + 1) a')) /\ I (i + 1) a') (he:∀ a,I n a -> F (emb n a) = some (.exit (b a))) {a:α} {s:σ} (hs0:s = emb 0 a) (h0:I 0 a) :
  ∃ a',(∀ A:Type,loopN (A:=A) big F s = some (.exit (b a'))) /\ I n a':=by
 rcases Qd (F:=F) emb n I (fun o => ∃ a',o = b a' /\ I n a') (fun _ => False) hn (fun i a hi hI => by
  by_cases h:i < n
  ·obtain ⟨a',e,h'⟩:=hs i a h hI
   exact .inl ⟨a',h,e,h'⟩
  ·obtain rfl:i = n:=by omega
   exact .inr (.inl ⟨_,he a hI,a,rfl,hI⟩)) hs0 h0 with ⟨o,e,a',rfl,h'⟩ | ⟨c,-,hc⟩
 ·exact ⟨a',e,h'⟩
 ·exact absurd hc id
/-! rows -/
def rowN (n:Nat) (g:Nat -> Int):List Int:=(List.range n).map g
theorem Es (n:Nat) (g:Nat -> Int):(rowN n g).length = n:=by simp [rowN]
theorem Gr {n:Nat} {g:Nat -> Int} {k:Nat} (h:k < n):getI (rowN n g) (k:Int) = some (g k):=by
 rw [getI_lt (by rw [Es]; exact h)]
 simp [rowN]
theorem Z1 {n:Nat} {f g:Nat -> Int} (h:∀ i,i < n -> f i = g i):rowN n f = rowN n g:=List.map_congr_left fun i hi => h i (List.mem_range.1 hi)
theorem Ac1 {n:Nat} (g:Nat -> Int) (k:Nat) (v:Int):setI (rowN n g) (k:Int) (fun _ => v) = rowN n (fun i => if i = k then v else g i):=by
 refine List.ext_getElem (by rw [Mv,Es,Es]) fun i h1 h2' => ?_
 have h2:i < n:=by rw [Es] at h2'; exact h2'
 have e1:getI (setI (rowN n g) (k:Int) (fun _ => v)) (i:Int) = some (setI (rowN n g) (k:Int) (fun _ => v))[i]:=getI_lt h1
 have e2:(rowN n (fun i => if i = k then v else g i))[i]'(by rw [Es]; exact h2) = if i = k then v else g i:=by simp [rowN]
 rw [e2]
 by_cases h:i = k
 ·subst h
  rw [Va (Gr h2)] at e1
  rw [if_pos rfl]
  exact (Option.some.inj e1).symm
 ·rw [Uy h,Gr h2] at e1
  rw [if_neg h]
  exact (Option.some.inj e1).symm
theorem Aaz (n:Nat) (v:Int):List.replicate n v = rowN n (fun _ => v):=by
 refine List.ext_getElem (by rw [Es,List.length_replicate]) fun i h1 h2 => ?_
 simp [rowN]
theorem Wb (n:Nat) (g:Nat -> Int):rowN n g ++ [g n] = rowN (n + 1) g:=by
 unfold rowN
 rw [List.range_succ,List.map_append]
 rfl
theorem Pw (n:Nat) (f:Nat -> Nat -> Int):(matL n f).length = n:=by simp [matL]
theorem Uc {n:Nat} {f:Nat -> Nat -> Int} {k:Nat} (h:k < n):getI (matL n f) (k:Int) = some (rowN n (f k)):=by
 rw [getI_lt (by rw [Pw]; exact h)]
 simp [matL,rowN]
/-! the least durations, and what a link asks for -/
variable {p:Aa}
theorem init_mo (p:Aa) {i:Nat} (hi:i < p.2.1.length):moB (initD p) i = iotaI p.2.1[i].2.2.1.length:=by
 unfold moB initD
 simp [hi]
theorem short_V (hp:Af 1099511627776 p) (h:projB p = true) {i:Nat} (hi:i < p.2.1.length) (u:Unit):Bl (p,(i:Int),u) () = some (durM p (initD p) i,()):=by
 have h3:=(Mg h hi).2
 have e:durM p (initD p) i = durV (fun x n => ltZ x n) p.2.1[i] (iotaI p.2.1[i].2.2.1.length):=by
  unfold durM
  rw [List.getElem?_eq_getElem hi]
  simp only [init_mo p hi,dur_lst]
 unfold Bl
 simp only [getI_lt hi,Ab,I1 p.2.1[i] _ (by omega),Ib p.2.1[i] _ _ (by omega) (show (iotaI p.2.1[i].2.2.1.length).length <= 1099511627776 by simp [iotaI]; omega),e]
def gapM (p:Aa) (k:D_Link):Int:=if k.2.2.1 = true then k.2.2.2.1 + durM p (initD p) k.1.toNat else k.2.2.2.1
theorem gap_V (hp:Af 1099511627776 p) (h:projB p = true) {k:D_Link} (hk:k ∈ p.2.2.1):cyG p k = some (gapM p k) /\ -100 <= gapM p k /\ gapM p k <= 100:=by
 obtain ⟨i,hi,rfl⟩:=List.mem_iff_getElem.1 hk
 obtain ⟨f,t,ef,et,hf,ht,-,g1,g2⟩:=link_at hp h hi
 have h3:=(Mg h hf).2
 have gf:getI p.2.1 p.2.2.1[i].1 = some p.2.1[f]:=by rw [ef]; exact getI_lt hf
 have hd:=durM_in h (initD p) hf
 have e:durM p (initD p) f = durV (fun x n => ltZ x n) p.2.1[f] (iotaI p.2.1[f].2.2.1.length):=by
  unfold durM
  rw [List.getElem?_eq_getElem hf]
  simp only [init_mo p hf,dur_lst]
 have et:p.2.2.1[i].1.toNat = f:=by rw [ef,Int.toNat_natCast]
 have key:∀ u,Bg (p,p.2.2.1[i],u) () = some (gapM p p.2.2.1[i],()):=fun u => by
  unfold Bg If gapM
  simp only [gf,Ab,I1 p.2.1[f] _ (by omega),Ib p.2.1[f] _ _ (by omega) (show (iotaI p.2.1[f].2.2.1.length).length <= 1099511627776 by simp [iotaI]; omega),et,<- e]
  rcases tf p.2.2.1[i].2.2.1 with q | q
  ·simp only [q,Bool.false_eq_true,if_false,Ab]
  ·simp only [q,if_true,Ab]
   rw [addZ64 (by omega) (by omega)]
 refine ⟨?_,?_⟩
 ·show Option.map _ _ = _
  rw [key]
  rfl
 ·unfold gapM
  rw [et]
  split <;> omega
/-- the distances as the laws below use them -/
structure Far (p:Aa) (f:Nat -> Nat -> Int):Prop where
 n0:1 <= p.2.1.length
 n2:p.2.1.length <= 2
 D:∀ u,Dg (p,u) () = some (matL p.2.1.length f,())
 d:∀ i,i < p.2.1.length -> f i i = 0
 r:∀ i k,i < p.2.1.length -> k < p.2.1.length -> f i k = -1000 \/ (-100 <= f i k /\ f i k <= 100)
variable {f:Nat -> Nat -> Int} {e l:Nat -> Int}
/-- the earliest starts -/
structure Ear (n:Nat) (f:Nat -> Nat -> Int) (e:Nat -> Int):Prop where
 z:∀ k,k < n -> 0 <= e k /\ e k <= 100
 u:∀ i k,i < n -> k < n -> f i k <= e k
 w:∀ k,k < n -> e k = 0 \/ ∃ i,i < n /\ e k = f i k
theorem Early_V (h:Far p f):∃ e,(∀ u,Au (p,u) () = some (rowN p.2.1.length e,())) /\ Ear p.2.1.length f e:=by
 have n0:=h.n0
 have n2:=h.n2
 have hD:=h.D
 generalize hn:p.2.1.length = n at *
 have inner:=fun (i:Nat) (hi:i < n) (g:Nat -> Int) => Hn (F:=D0) (fun k (g:Nat -> Int) => ((k:Int),(n:Int),rowN n (f i),(i:Int),(n:Int),matL n f,rowN n g,())) n
  (fun k g' => ∀ j,j < n -> g' j = if j < k then maxI (g j) (f i j) else g j) (fun g => Sum.inl (false,(n:Int),(n:Int),rowN n (f i),(i:Int),(n:Int),matL n f,rowN n g,())) (by omega)
  (fun k g' hk hI => by
   refine ⟨fun j => if j = k then maxI (g' k) (f i k) else g' j,?_,fun j hj => ?_⟩
   ·unfold D0
    simp only [lt_yes hk,if_true,Gr hk,Ab,Ac1,idxN hk n2 (show 2 <= 1099511627776 by omega)]
   ·by_cases q:j = k
    ·subst q
     show (if j = j then maxI (g' j) (f i j) else g' j) = _
     rw [if_pos rfl,if_pos (by omega),hI j hj,if_neg (by omega)]
    ·show (if j = k then maxI (g' k) (f i k) else g' j) = _
     rw [if_neg q,hI j hj]
     by_cases q2:j < k
     ·rw [if_pos q2,if_pos (by omega)]
     ·rw [if_neg q2,if_neg (by omega)])
  (fun g _ => by
   unfold D0
   simp only [lt_no,Bool.false_eq_true,if_false])
  (a:=g) (s:=((0:Int),(n:Int),rowN n (f i),(i:Int),(n:Int),matL n f,rowN n g,())) rfl (fun j hj => by rw [if_neg (by omega)])
 obtain ⟨e,he,hI⟩:=Hn (F:=Br) (fun i (g:Nat -> Int) => ((i:Int),(n:Int),matL n f,rowN n g,())) n
  (fun i g => (∀ k,k < n -> 0 <= g k /\ g k <= 100) /\ (∀ j k,j < i -> k < n -> f j k <= g k) /\ ∀ k,k < n -> g k = 0 \/ ∃ j,j < i /\ g k = f j k) (fun g => Sum.inl (false,(n:Int),(n:Int),matL n f,rowN n g,())) (by omega)
  (fun i g hi hI => by
   obtain ⟨g',e1,h1⟩:=inner i hi g
   refine ⟨g',?_,fun k hk => ?_,fun j k hj hk => ?_,fun k hk => ?_⟩
   ·unfold Br
    simp only [lt_yes hi,if_true,Uc hi,Ab,lenI_eq,Es,e1,idxN hi n2 (show 2 <= 1099511627776 by omega)]
   ·rw [h1 k hk,if_pos hk]
    have:=hI.1 k hk
    have:=h.r i k (by omega) (by omega)
    unfold maxI
    split <;> omega
   ·rw [h1 k hk,if_pos hk]
    have:=hI.1 k hk
    rcases Nat.lt_or_ge j i with q | q
    ·have:=hI.2.1 j k q hk
     unfold maxI
     split <;> omega
    ·obtain rfl:j = i:=by omega
     unfold maxI
     split <;> omega
   ·rw [h1 k hk,if_pos hk]
    have h3:=hI.2.2 k hk
    unfold maxI
    split
    ·exact .inr ⟨i,by omega,rfl⟩
    ·rcases h3 with q | ⟨j,hj,q⟩
     ·exact .inl q
     ·exact .inr ⟨j,by omega,q⟩)
  (fun g _ => by
   unfold Br
   simp only [lt_no,Bool.false_eq_true,if_false])
  (a:=fun _ => 0) (s:=((0:Int),(n:Int),matL n f,rowN n (fun _ => 0),())) rfl ⟨fun k hk => ⟨Int.le_refl 0,show (0:Int) <= 100 by omega⟩,fun j k hj => absurd hj (by omega),fun k hk => .inl rfl⟩
 refine ⟨e,fun u => ?_,⟨hI.1,hI.2.1,hI.2.2⟩⟩
 have z:zerosI (n:Int) (0:Int) = some (rowN n (fun _ => 0)):=by rw [zerosN (by omega),Aaz]
 unfold Au
 simp only [hD,Ab,lenI_eq,Pw,Cm,if_true,z,he]
theorem Abh (hD:∀ u,Dg (p,u) () = some ([],())) (u:Unit):Au (p,u) () = some ([],()):=by
 have l0:=Hn (F:=Br) (fun i (_:Unit) => ((i:Int),(0:Int),([]:List (List Int)),([]:List Int),())) 0 (fun _ _ => True) (fun _ => Sum.inl (false,(0:Int),(0:Int),[],[],())) (by omega)
  (fun i g hi _ => absurd hi (by omega))
  (fun g _ => by
   unfold Br
   have:ltZ ((0:Nat):Int) 0 = false:=rfl
   simp only [this,Bool.false_eq_true,if_false]
   rfl)
  (a:=()) (s:=((0:Int),(0:Int),([]:List (List Int)),([]:List Int),())) rfl trivial
 obtain ⟨-,e,-⟩:=l0
 have z:zerosI (0:Int) (0:Int) = some []:=rfl
 have z2:lenI ([]:List (List Int)) = 0:=rfl
 unfold Au
 simp only [hD,Ab,z2,Cm,if_true,z,e]
/-- a bound of all paths -/
structure PBd (n:Nat) (sh e:Nat -> Int) (P:Int):Prop where
 z:0 <= P /\ P <= 112
 u:∀ k,k < n -> e k + sh k <= P
 w:P = 0 \/ ∃ k,k < n /\ P = e k + sh k
theorem Path_V (hp:Af 1099511627776 p) (hj:projB p = true) (hn2:p.2.1.length <= 2) (he:∀ u,Au (p,u) () = some (rowN p.2.1.length e,())) (hz:∀ k,k < p.2.1.length -> 0 <= e k /\ e k <= 100) :
  ∃ P,(∀ u,Bm (p,u) () = some (P,())) /\ PBd p.2.1.length (durM p (initD p)) e P:=by
 obtain ⟨P,eP,hP⟩:=Hn (F:=Hj) (fun k (P:Int) => ((k:Int),(p.2.1.length:Int),rowN p.2.1.length e,p,P,())) p.2.1.length
  (fun i P => (0 <= P /\ P <= 112) /\ (∀ k,k < i -> e k + durM p (initD p) k <= P) /\ (P = 0 \/ ∃ k,k < i /\ P = e k + durM p (initD p) k)) (fun P => Sum.inl (false,(p.2.1.length:Int),(p.2.1.length:Int),rowN p.2.1.length e,p,P,())) (by omega)
  (fun k P hk hI => by
   have hs:=fun u => short_V hp hj hk u
   have hd:=durM_in hj (initD p) hk
   have hzk:=hz k hk
   refine ⟨maxI P (e k + durM p (initD p) k),?_,?_,fun j hj => ?_,?_⟩
   ·unfold Hj
    simp only [lt_yes hk,if_true,Gr hk,Ab,hs,idxN hk hn2 (show 2 <= 1099511627776 by omega),addZ64 (show -9223372036854775808 <= e k + durM p (initD p) k by omega) (show e k + durM p (initD p) k <= 9223372036854775807 by omega)]
   ·unfold maxI
    split <;> omega
   ·rcases Nat.lt_or_ge j k with q | q
    ·have:=hI.2.1 j q
     unfold maxI
     split <;> omega
    ·obtain rfl:j = k:=by omega
     unfold maxI
     split <;> omega
   ·unfold maxI
    split
    ·exact .inr ⟨k,by omega,rfl⟩
    ·rcases hI.2.2 with q | ⟨j,hj,q⟩
     ·exact .inl q
     ·exact .inr ⟨j,by omega,q⟩)
  (fun P _ => by
   unfold Hj
   simp only [lt_no,Bool.false_eq_true,if_false])
  (a:=0) (s:=((0:Int),(p.2.1.length:Int),rowN p.2.1.length e,p,0,())) rfl ⟨by omega,fun k hk => absurd hk (by omega),.inl rfl⟩
 refine ⟨P,fun u => ?_,⟨hP.1,hP.2.1,hP.2.2⟩⟩
 unfold Bm
 simp only [he,Ab,lenI_eq,Es,eP]
/-- the latest starts for a time -/
structure Lat (n:Nat) (f:Nat -> Nat -> Int) (sh:Nat -> Int) (t:Int) (l:Nat -> Int):Prop where
 u:∀ a k,a < n -> k < n -> f a k ≠ -1000 -> l a <= t - sh k - f a k
 w:∀ a,a < n -> ∃ k,k < n /\ f a k ≠ -1000 /\ l a = t - sh k - f a k
theorem Late_V (hp:Af 1099511627776 p) (hj:projB p = true) (h:Far p f) {t:Int} (ht:0 <= t /\ t <= 200):∃ l,(∀ u,B3 (p,t,u) () = some (rowN p.2.1.length l,())) /\ Lat p.2.1.length f (durM p (initD p)) t l:=by
 have n0:=h.n0
 have n2:=h.n2
 have hD:=h.D
 have inner:=fun (i:Nat) (hi:i < p.2.1.length) (out:List Int) => Hn (F:=B8) (fun k (s:Bool × Int) => ((k:Int),(p.2.1.length:Int),rowN p.2.1.length (f i),s.1,out,s.2,(i:Int),(p.2.1.length:Int),matL p.2.1.length f,t,p,())) p.2.1.length
  (fun k s => (s.1 = false -> ∀ j,j < k -> f i j = -1000) /\ (s.1 = true -> (∀ j,j < k -> f i j ≠ -1000 -> s.2 <= t - durM p (initD p) j - f i j) /\ ∃ j,j < k /\ f i j ≠ -1000 /\ s.2 = t - durM p (initD p) j - f i j))
  (fun s => Sum.inl (false,(p.2.1.length:Int),(p.2.1.length:Int),rowN p.2.1.length (f i),s.1,out,s.2,(i:Int),(p.2.1.length:Int),matL p.2.1.length f,t,p,())) (by omega)
  (fun k s hk hI => by
   obtain ⟨b,m⟩:=s
   have hs:=fun u => short_V hp hj hk u
   have hd:=durM_in hj (initD p) hk
   have hr:=h.r i k hi hk
   have es:subZ .i64 (subZ .i64 t (durM p (initD p) k)) (f i k) = t - durM p (initD p) k - f i k:=by
    rw [subZ64 (x:=t) (by omega) (by omega),subZ64 (by omega) (by omega)]
   by_cases q:f i k = -1000
   ·refine ⟨(b,m),?_,fun hb j hj => ?_,fun hb => ?_⟩
    ·unfold B8
     simp only [lt_yes hk,if_true,Gr hk,Ab,hs,q,Cm,Ak,Bool.false_eq_true,if_false,idxN hk n2 (show 2 <= 1099511627776 by omega)]
    ·rcases Nat.lt_or_ge j k with q2 | q2
     ·exact hI.1 hb j q2
     ·obtain rfl:j = k:=by omega
      exact q
    ·obtain ⟨h1,j,h2,h3⟩:=hI.2 hb
     refine ⟨fun j hj hne => ?_,j,by omega,h3⟩
     rcases Nat.lt_or_ge j k with q2 | q2
     ·exact h1 j q2 hne
     ·obtain rfl:j = k:=by omega
      exact absurd q hne
   ·have qn:eqZ (f i k) (-1000) = false:=eqZ_ne q
    by_cases c:b = false \/ t - durM p (initD p) k - f i k < m
    ·refine ⟨(true,t - durM p (initD p) k - f i k),?_,fun hb => (by cases hb),fun _ => ⟨fun j hj hne => ?_,k,by omega,q,rfl⟩⟩
     ·unfold B8
      rcases tf b with rfl | rfl
      ·simp only [lt_yes hk,if_true,Gr hk,Ab,hs,qn,Dj,es,idxN hk n2 (show 2 <= 1099511627776 by omega)]
      ·have c':ltZ (t - durM p (initD p) k - f i k) m = true:=by
        rw [ltZ_iff]
        rcases c with c | c
        ·cases c
        ·exact c
       simp only [lt_yes hk,if_true,Gr hk,Ab,hs,qn,Dj,Ak,Bool.false_eq_true,if_false,es,c',idxN hk n2 (show 2 <= 1099511627776 by omega)]
     ·rcases Nat.lt_or_ge j k with q2 | q2
      ·rcases c with c | c
       ·exact absurd (hI.1 c j q2) hne
       ·rcases tf b with rfl | rfl
        ·exact absurd (hI.1 rfl j q2) hne
        ·have:=(hI.2 rfl).1 j q2 hne
         show _ <= _
         simp only at this ⊢
         omega
      ·obtain rfl:j = k:=by omega
       exact Int.le_refl _
    ·have hb:b = true:=by
      rcases tf b with rfl | rfl
      ·exact absurd (.inl rfl) c
      ·rfl
     subst hb
     have c':ltZ (t - durM p (initD p) k - f i k) m = false:=by
      rw [Bool.eq_false_iff,Ne,ltZ_iff]
      exact fun e => c (.inr e)
     refine ⟨(true,m),?_,fun hb => (by cases hb),fun _ => ?_⟩
     ·unfold B8
      simp only [lt_yes hk,if_true,Gr hk,Ab,hs,qn,Dj,Ak,Bool.false_eq_true,if_false,es,c',idxN hk n2 (show 2 <= 1099511627776 by omega)]
     ·obtain ⟨h1,j,h2,h3⟩:=hI.2 rfl
      refine ⟨fun j hj hne => ?_,j,by omega,h3⟩
      rcases Nat.lt_or_ge j k with q2 | q2
      ·exact h1 j q2 hne
      ·obtain rfl:j = k:=by omega
       have:¬ t - durM p (initD p) j - f i j < m:=fun e => c (.inr e)
       show m <= _
       omega)
  (fun s _ => by
   unfold B8
   simp only [lt_no,Bool.false_eq_true,if_false])
  (a:=(false,0)) (s:=((0:Int),(p.2.1.length:Int),rowN p.2.1.length (f i),false,out,0,(i:Int),(p.2.1.length:Int),matL p.2.1.length f,t,p,())) rfl ⟨fun _ j hj => absurd hj (by omega),fun e => by cases e⟩
 obtain ⟨l,el,hl⟩:=Hn (F:=Eu) (fun i (l:Nat -> Int) => ((i:Int),(p.2.1.length:Int),matL p.2.1.length f,t,p,rowN i l,())) p.2.1.length
  (fun i l => ∀ a,a < i -> (∀ k,k < p.2.1.length -> f a k ≠ -1000 -> l a <= t - durM p (initD p) k - f a k) /\ ∃ k,k < p.2.1.length /\ f a k ≠ -1000 /\ l a = t - durM p (initD p) k - f a k)
  (fun l => Sum.inl (false,(p.2.1.length:Int),(p.2.1.length:Int),matL p.2.1.length f,t,p,rowN p.2.1.length l,())) (by omega)
  (fun i l hi hI => by
   obtain ⟨⟨b,m⟩,e1,h1,h2⟩:=inner i hi (rowN i l)
   have hb:b = true:=by
    rcases tf b with rfl | rfl
    ·have:=h1 rfl i hi
     rw [h.d i hi] at this
     exact absurd this (by omega)
    ·rfl
   have hm:=h2 hb
   refine ⟨fun a => if a = i then m else l a,?_,fun a ha => ?_⟩
   ·have ea:addI (rowN i l) [m] = some (rowN (i + 1) (fun a => if a = i then m else l a)):=by
     rw [addI_ok (by rw [room_eq,Es]; simp; omega),<- Wb]
     have:rowN i (fun a => if a = i then m else l a) = rowN i l:=Z1 fun j hj => by rw [if_neg (by omega)]
     rw [this,if_pos rfl]
    unfold Eu
    simp only [lt_yes hi,if_true,Uc hi,Ab,lenI_eq,Es,e1,ea,idxN hi n2 (show 2 <= 1099511627776 by omega)]
   ·by_cases q:a = i
    ·subst q
     simp only [if_true]
     exact hm
    ·simp only [if_neg q]
     exact hI a (by omega))
  (fun l _ => by
   unfold Eu
   simp only [lt_no,Bool.false_eq_true,if_false])
  (a:=fun _ => 0) (s:=((0:Int),(p.2.1.length:Int),matL p.2.1.length f,t,p,[],())) rfl (fun a ha => absurd ha (by omega))
 refine ⟨l,fun u => ?_,⟨fun a k ha hk => (hl a ha).1 k hk,fun a ha => (hl a ha).2⟩⟩
 unfold B3
 simp only [hD,Ab,lenI_eq,Pw,el]
theorem Abu {t:Int} (hn2:p.2.1.length <= 2) (he:∀ u,Au (p,u) () = some (rowN p.2.1.length e,())) (hl:∀ u,B3 (p,t,u) () = some (rowN p.2.1.length l,())) (u:Unit) :
  Mi (p,t,u) () = some (rowN p.2.1.length (fun a => subZ .i64 (l a) (e a)),()):=by
 obtain ⟨-,e1,-⟩:=Hn (F:=Jz) (fun i (_:Unit) => ((i:Int),(p.2.1.length:Int),rowN p.2.1.length e,rowN p.2.1.length l,rowN i (fun a => subZ .i64 (l a) (e a)),())) p.2.1.length
  (fun _ _ => True) (fun _ => Sum.inl (false,(p.2.1.length:Int),(p.2.1.length:Int),rowN p.2.1.length e,rowN p.2.1.length l,rowN p.2.1.length (fun a => subZ .i64 (l a) (e a)),())) (by omega)
  (fun i _ hi _ => by
   refine ⟨(),?_,trivial⟩
   have ea:addI (rowN i (fun a => subZ .i64 (l a) (e a))) [subZ .i64 (l i) (e i)] = some (rowN (i + 1) (fun a => subZ .i64 (l a) (e a))):=by
    rw [addI_ok (by rw [room_eq,Es]; simp; omega),<- Wb]
   unfold Jz
   simp only [lt_yes hi,if_true,Gr hi,Ab,ea,idxN hi hn2 (show 2 <= 1099511627776 by omega)])
  (fun _ _ => by
   unfold Jz
   simp only [lt_no,Bool.false_eq_true,if_false])
  (a:=()) (s:=((0:Int),(p.2.1.length:Int),rowN p.2.1.length e,rowN p.2.1.length l,[],())) rfl trivial
 unfold Mi
 simp only [he,hl,Ab,lenI_eq,Es,e1]
theorem Crit_V {P:Int} (hn2:p.2.1.length <= 2) (he:∀ u,Au (p,u) () = some (rowN p.2.1.length e,())) (hP:∀ u,Bm (p,u) () = some (P,())) (hl:∀ u,B3 (p,P,u) () = some (rowN p.2.1.length l,()))
  {a:Nat} (ha:a < p.2.1.length) (h:e a = l a):∃ c:List Int,0 < c.length /\ ∀ u,C7 (p,u) () = some (c,()):=by
 obtain ⟨c,e1,h1,h2⟩:=Hn (F:=Bp) (fun i (c:List Int) => ((i:Int),(p.2.1.length:Int),rowN p.2.1.length e,rowN p.2.1.length l,c,())) p.2.1.length
  (fun i c => c.length <= i /\ (a < i -> 0 < c.length)) (fun c => Sum.inl (false,(p.2.1.length:Int),(p.2.1.length:Int),rowN p.2.1.length e,rowN p.2.1.length l,c,())) (by omega)
  (fun i c hi hI => by
   rcases tf (eqZ (e i) (l i)) with q | q
   ·refine ⟨c,?_,by omega,fun hai => ?_⟩
    ·unfold Bp
     simp only [lt_yes hi,if_true,Gr hi,Ab,q,Bool.false_eq_true,if_false,idxN hi hn2 (show 2 <= 1099511627776 by omega)]
    ·by_cases q2:a = i
     ·subst q2
      rw [h,Cm] at q
      cases q
     ·exact hI.2 (by omega)
   ·refine ⟨c ++ [(i:Int)],?_,by simp; omega,fun _ => by simp⟩
    have ea:addI c [(i:Int)] = some (c ++ [(i:Int)]):=addI_ok (by rw [room_eq]; simp; omega)
    unfold Bp
    simp only [lt_yes hi,if_true,Gr hi,Ab,q,ea,idxN hi hn2 (show 2 <= 1099511627776 by omega)])
  (fun _ _ => by
   unfold Bp
   simp only [lt_no,Bool.false_eq_true,if_false])
  (a:=[]) (s:=((0:Int),(p.2.1.length:Int),rowN p.2.1.length e,rowN p.2.1.length l,[],())) rfl ⟨by simp,fun h => absurd h (by omega)⟩
 refine ⟨c,h2 ha,fun u => ?_⟩
 unfold C7
 simp only [hP,he,hl,Ab,lenI_eq,Es,e1]
theorem Tail_V (hp:Af 1099511627776 p) (hj:projB p = true) (h:Far p f) {a:Nat} (ha:a < p.2.1.length):∃ v,(∀ u,Jc (p,(a:Int),u) () = some (v,())) /\ (v = durM p (initD p) a \/ ∃ k,k < p.2.1.length /\ f a k ≠ -1000 /\ v = f a k + durM p (initD p) k) /\ -200 <= v /\ v <= 200:=by
 have n0:=h.n0
 have n2:=h.n2
 have hD:=h.D
 have hda:=durM_in hj (initD p) ha
 obtain ⟨v,e1,h1⟩:=Hn (F:=D9) (fun k (v:Int) => ((k:Int),(p.2.1.length:Int),rowN p.2.1.length (f a),p,v,())) p.2.1.length
  (fun k v => (v = durM p (initD p) a \/ ∃ j,j < k /\ f a j ≠ -1000 /\ v = f a j + durM p (initD p) j) /\ -200 <= v /\ v <= 200) (fun v => Sum.inl (false,(p.2.1.length:Int),(p.2.1.length:Int),rowN p.2.1.length (f a),p,v,())) (by omega)
  (fun k v hk hI => by
   have hs:=fun u => short_V hp hj hk u
   have hd:=durM_in hj (initD p) hk
   have hr:=h.r a k ha hk
   have keep:v = durM p (initD p) a \/ ∃ j,j < k + 1 /\ f a j ≠ -1000 /\ v = f a j + durM p (initD p) j:=by
    rcases hI.1 with q | ⟨j,h1,h2⟩
    ·exact .inl q
    ·exact .inr ⟨j,by omega,h2⟩
   by_cases q:f a k = -1000
   ·refine ⟨v,?_,keep,hI.2⟩
    unfold D9
    simp only [lt_yes hk,if_true,Gr hk,Ab,q,Cm,Ak,Bool.false_eq_true,if_false,idxN hk n2 (show 2 <= 1099511627776 by omega)]
   ·have qn:eqZ (f a k) (-1000) = false:=eqZ_ne q
    refine ⟨maxI v (f a k + durM p (initD p) k),?_,?_,?_⟩
    ·unfold D9
     simp only [lt_yes hk,if_true,Gr hk,Ab,qn,Dj,hs,addZ64 (show -9223372036854775808 <= f a k + durM p (initD p) k by omega) (show f a k + durM p (initD p) k <= 9223372036854775807 by omega),idxN hk n2 (show 2 <= 1099511627776 by omega)]
    ·unfold maxI
     split
     ·exact .inr ⟨k,by omega,q,rfl⟩
     ·exact keep
    ·unfold maxI
     split <;> omega)
  (fun _ _ => by
   unfold D9
   simp only [lt_no,Bool.false_eq_true,if_false])
  (a:=durM p (initD p) a) (s:=((0:Int),(p.2.1.length:Int),rowN p.2.1.length (f a),p,durM p (initD p) a,())) rfl ⟨.inl rfl,by omega,by omega⟩
 refine ⟨v,fun u => ?_,h1⟩
 have hin:=inB_at hp.2.1.1 ha
 have z:eqZ (p.2.1.length:Int) 0 = false:=eqZ_ne (by omega)
 unfold Jc
 simp only [hD,Ab,lenI_eq,Pw,z,Bool.false_eq_true,if_false,H0]
 rw [lenI_eq] at hin
 simp only [hin,Ak,Bool.false_eq_true,if_false,Ab,short_V hp hj ha,Uc ha,lenI_eq,Es,e1]
/-! plain arithmetic: some activity is critical -/
theorem crit_ex {n:Nat} {sh l:Nat -> Int} {P:Int} (n0:1 <= n) (hs:∀ k,k < n -> 1 <= sh k) (he:Ear n f e) (hP:PBd n sh e P) (hl:Lat n f sh P l) (hd:∀ i,i < n -> f i i = 0)
  (tri:∀ i j k,i < n -> j < n -> k < n -> f i j ≠ -1000 -> f j k ≠ -1000 -> f i j + f j k <= f i k):∃ a,a < n /\ e a = l a:=by
 have ex:∃ a,a < n /\ P = e a + sh a:=by
  rcases hP.w with q | q
  ·have:=hP.u 0 (by omega)
   have:=he.z 0 (by omega)
   have:=hs 0 (by omega)
   omega
  ·exact q
 obtain ⟨a,ha,hPa⟩:=ex
 refine ⟨a,ha,?_⟩
 have h1:=hl.u a a ha ha (by rw [hd a ha]; omega)
 rw [hd a ha] at h1
 obtain ⟨k,hk,hne,h2⟩:=hl.w a ha
 have h3:=hP.u k hk
 have h4:e a + f a k <= e k:=by
  rcases he.w a ha with q | ⟨i,hi,q⟩
  ·rw [q]
   have:=he.u a k ha hk
   omega
  ·by_cases hne2:f i a = -1000
   ·have:=he.z a ha
    omega
   ·have:=tri i a k hi ha hk hne2 hne
    have:=he.u i k hi hk
    omega
 omega
open Go.Abs
set_option linter.unusedVariables false
set_option linter.unusedSimpArgs false
variable {p:Aa} {s:Ac}
theorem end_leD (hp:Af 1099511627776 p) (h:okV p s = true) {i:Nat} (hi:i < p.2.1.length):endV p s (i:Int) <= p.1:=by
 have hf:=Di h
 have hF:=ok_rule h ((Rb hp (Bc hf)).2 i hi)
 have ge:=(endV_at hp hf hi).1
 have z1:eqZ 2 1 = false:=rfl
 have z2:eqZ 2 2 = true:=rfl
 unfold failB Bn at hF
 simp only [z1,z2,if_true,Bool.false_eq_true,if_false,Ab,ge] at hF
 rw [Bool.eq_false_iff,Ne,ltZ_iff] at hF
 omega
theorem Uj (hp:Af 1099511627776 p) (h:okV p s = true):spanV p s <= p.1:=by
 have hd:1 <= p.1:=by
  have h0:=Bc (Di h)
  unfold projB at h0
  simp only [Bool.and_eq_true] at h0
  exact (inB_iff.1 h0.1.1.1.1.1.1.1.1).1
 have key:∀ (l:List Int) (m:Int),(∀ a ∈ l,endV p s a <= p.1) -> m <= p.1 -> l.foldl (fun m a => maxI m (endV p s a)) m <= p.1:=by
  intro l
  induction l with
  | nil => intro m _ h2; exact h2
  | cons a l ih =>
   intro m hl h2
   rw [List.foldl_cons]
   have:=hl a (by simp)
   refine ih _ (fun b hb => hl b (by simp [hb])) ?_
   unfold maxI; split <;> omega
 exact key _ 0 (fun a ha => by
  obtain ⟨i,rfl,hi⟩:=H3 ha
  exact end_leD hp h hi) (by omega)
/-- a valid schedule lies in the first domain -/
theorem X2 (hP:GenP 6 p) (h:okV p s = true):conB (initD p) s = true:=by
 have hp:Af 1099511627776 p:=hP.sm (by omega) (by omega)
 have hf:=Di h
 have hd:=hP.dl
 refine (con_iff (GenB0.init hP).l (Ff hf)).2 fun i hi => ?_
 obtain ⟨m,hm,em,ee,t0,t6,d1,d2,-⟩:=sch_at hp hf hi
 have he:=end_leD hp h hi
 have e1:mnB (initD p) i = 0:=by unfold mnB initD; simp [hi]
 have e2:mxB (initD p) i = p.1 - 1:=by
  unfold mxB initD
  simp [hi]
  exact subZ64 (by omega) (by omega)
 rw [e1,e2,init_mo p hi,em]
 exact ⟨t0,by omega,Lm.2 (List.mem_map.2 ⟨m,List.mem_range.2 hm,rfl⟩)⟩
theorem Wl (hP:GenP 6 p):UseD p (initD p):=by
 have h:=GenB0.init hP
 refine ⟨hP.sm (by omega) (by omega),h.toGenB0.sm hP (by omega),h.toGenB0.dom hP,Abm (fun i h1 h2 => h.le i h1 h2) (fun m hm => ?_),h.l⟩
 obtain ⟨i,hi,rfl⟩:=List.mem_iff_getElem.1 hm
 have l3:=h.l.l3
 rw [h.m i hi (by omega)]
 have:=(hP.a i (by omega)).ml
 intro e
 have h0:(iotaI p.2.1[i].2.2.1.length).length = 0:=by rw [e]; rfl
 rw [B0] at h0
 omega
theorem ok_at (hP:GenP 6 p) (h:okV p s = true) {i:Nat} (hi:i < p.2.1.length):0 <= tsS s i /\ tsS s i <= 60 /\ tsS s i + durM p (initD p) i <= endV p s (i:Int) /\ endV p s (i:Int) <= spanV p s /\ 1 <= durM p (initD p) i:=by
 have hI:=in_dom (Wl hP) (Di h) (X2 hP h) hi
 refine ⟨hI.t0,hI.t1,hI.e,span_ge p s hi,?_⟩
 have hpj:=Bc (Di h)
 have hm:=(Mg hpj hi).1
 have e:durM p (initD p) i = lstV (fun m => m.1) p.2.1[i] (iotaI p.2.1[i].2.2.1.length):=by
  unfold durM
  rw [List.getElem?_eq_getElem hi]
  simp only [init_mo p hi]
 obtain ⟨m,hm2,em⟩:=X5 (fun m => m.1) (a:=p.2.1[i]) (ms:=iotaI p.2.1[i].2.2.1.length) (j:=0) (by omega) (Lm.2 (List.mem_map.2 ⟨0,List.mem_range.2 (by omega),rfl⟩))
 rw [e,em]
 exact (Kw hpj hi m hm2).1
theorem dur_pos (hP:GenP 6 p) {i:Nat} (hi:i < p.2.1.length):1 <= durM p (initD p) i:=by
 have hpj:=hP.ok (Nat.le_refl _)
 have hm:=(Mg hpj hi).1
 have e:durM p (initD p) i = lstV (fun m => m.1) p.2.1[i] (iotaI p.2.1[i].2.2.1.length):=by
  unfold durM
  rw [List.getElem?_eq_getElem hi]
  simp only [init_mo p hi]
 obtain ⟨m,hm2,em⟩:=X5 (fun m => m.1) (a:=p.2.1[i]) (ms:=iotaI p.2.1[i].2.2.1.length) (j:=0) (by omega) (Lm.2 (List.mem_map.2 ⟨0,List.mem_range.2 (by omega),rfl⟩))
 rw [e,em]
 exact (Kw hpj hi m hm2).1
/-- the starts of a valid schedule satisfy the links -/
theorem link_V (hP:GenP 6 p) (h:okV p s = true):LinkOk p (tsS s):=by
 have hp:Af 1099511627776 p:=hP.sm (by omega) (by omega)
 have hf:=Di h
 have hpj:=Bc hf
 have hs:=Ff hf
 refine ⟨fun i => ?_,fun k hk g eg => ?_⟩
 ·by_cases hi:i < p.2.1.length
  ·have:=ok_at hP h hi
   omega
  ·unfold tsS
   rw [List.getElem?_eq_none (by have:=hs.s1; omega)]
   show (0:Int) <= 0 /\ (0:Int) <= 1000
   omega
 ·rw [(gap_V hp hpj hk).1] at eg
  cases eg
  obtain ⟨i,hi,rfl⟩:=List.mem_iff_getElem.1 hk
  obtain ⟨f,t,ef,et,hf',ht,-,g1,g2⟩:=link_at hp hpj hi
  have hF:=ok_rule h ((Rb hp hpj).1 i hi)
  have k1:=(hs.get hf').1
  have k2:=(hs.get ht).1
  have ge:=(endV_at hp hf hf').1
  have a1:=ok_at hP h hf'
  have a2:=endV_at hp hf hf'
  have z1:eqZ 1 1 = true:=rfl
  unfold failB Bn at hF
  unfold gapM
  rw [show p.2.2.1[i].1.toNat = f by rw [ef,Int.toNat_natCast],show p.2.2.1[i].2.1.toNat = t by rw [et,Int.toNat_natCast]]
  rcases tf p.2.2.1[i].2.2.1 with q | q
  ·simp only [z1,if_true,getI_lt hi,Ab,ef,et,k1,k2,ge,q,Bool.false_eq_true,if_false] at hF
   rw [Bool.eq_false_iff,Ne,ltZ_iff,addZ64 (by omega) (by omega)] at hF
   rw [q,if_neg (by simp)]
   omega
  ·simp only [z1,if_true,getI_lt hi,Ab,ef,et,k1,k2,ge,q] at hF
   rw [Bool.eq_false_iff,Ne,ltZ_iff,addZ64 (by omega) (by omega)] at hF
   rw [q,if_pos rfl]
   omega
/-! work -/
theorem capV_in {l:List D_Step} (h:stepsB l = true) (t:Int):0 <= capV l t /\ capV l t <= 20:=by
 have hs:∀ s ∈ l,0 <= s.2.1 /\ s.2.1 <= 20:=fun s hs => by
  obtain ⟨i,hi,rfl⟩:=List.mem_iff_getElem.1 hs
  unfold stepsB at h
  simp only [Bool.and_eq_true,List.all_eq_true,List.mem_range] at h
  have:=h.1.1 i hi
  unfold stepI at this
  rw [List.getElem?_eq_getElem hi] at this
  simp only [Bool.and_eq_true] at this
  exact inB_iff.1 this.1.2
 have key:∀ (l:List D_Step) (a:Int),(∀ s ∈ l,0 <= s.2.1 /\ s.2.1 <= 20) -> 0 <= a /\ a <= 20 -> 0 <= l.foldl (fun n s => if leZ s.1 t = true then s.2.1 else n) a /\ l.foldl (fun n s => if leZ s.1 t = true then s.2.1 else n) a <= 20:=by
  intro l
  induction l with
  | nil => intro a _ ha; exact ha
  | cons s l ih =>
   intro a hl ha
   simp only [List.foldl_cons]
   refine ih _ (fun s hs => hl s (by simp [hs])) ?_
   split
   ·exact hl s (by simp)
   ·exact ha
 exact key l 0 hs (by omega)
theorem stepsD (h:projB p = true) {j:Nat} (hj:j < p.2.2.2.1.length):stepsB p.2.2.2.1[j].1 = true:=by
 unfold projB at h
 simp only [Bool.and_eq_true] at h
 have h2:=h.1.1.2
 rw [List.all_eq_true] at h2
 have h3:=h2 _ (List.getElem_mem hj)
 unfold resrB at h3
 simp only [Bool.and_eq_true] at h3
 first | exact h3.2.1 | exact h3.1.2 | exact h3.1.1 | exact h3.1 | exact h3.2
theorem Zs {l:List D_Step} (hst:stepsB l = true) (n:Nat) (hl:l.length <= 1099511627776) (hx:n <= 60) (u:Unit):Cu (l,0,(n:Int),u) () = some (sumI (fun t => capV l (t:Int)) n,()):=by
 have hx1:inB 0 0 60 = true:=by rw [inB_iff]; omega
 have hx2:inB (n:Int) 0 60 = true:=by rw [inB_iff]; omega
 have l0:=Xx (F:=Ed) (fun i (v:Int) => ((i:Int),(n:Int),l,v,())) n (fun t => capV l (t:Int)) (fun v => Sum.inl (false,(n:Int),(n:Int),l,v,())) (by omega)
  (fun i _ => by have:=capV_in hst (i:Int); omega)
  (fun i v hi h0 h1 => by
   have:=capV_in hst (i:Int)
   unfold Ed
   simp only [lt_yes hi,if_true,Jo,Nv _ _ _ hl,Ab,idxN hi hx (show 60 <= 1099511627776 by omega)]
   rw [addZ64 (by omega) (by omega)])
  (fun v => by
   unfold Ed
   simp only [lt_no,Bool.false_eq_true,if_false])
  (s0:=((0:Int),(n:Int),l,0,())) rfl
 unfold Cu
 simp only [Pi _ _ hl,hst,Q4,hx1,hx2,Ak,Bool.false_eq_true,if_false,Ab,l0]
theorem cap_okD (hp:Af 1099511627776 p) (h:okV p s = true) {j:Nat} (hj:j < p.2.2.2.1.length) {t:Nat} (ht:t <= 60):useV p s (j:Int) (t:Int) <= capV p.2.2.2.1[j].1 (t:Int):=by
 have hf:=Di h
 have hpj:=Bc hf
 have hm:=(Vx hp hpj).1 j t hj ht
 have hF:=ok_rule h hm
 have h1:=Nx hp hf ((Xu hp hpj).2 _ hm) ()
 have hst:p.2.2.2.1[j].1.length <= 1099511627776:=(hp.2.2.2.1.2 _ (List.getElem_mem hj)).1.1
 rw [hF] at h1
 have z1:eqZ 3 1 = false:=rfl
 have z2:eqZ 3 2 = false:=rfl
 have z3:eqZ 3 3 = true:=rfl
 unfold At capR at h1
 simp only [z1,z2,z3,if_true,Bool.false_eq_true,if_false,Ab,Sj _ _ _ _ _ hp hf hj,getI_lt hj,Jo,Nv _ _ _ hst,Dj] at h1
 have h2:=(Prod.mk.inj (Option.some.inj h1)).1
 exact leZ_iff.1 h2
/-- the least work of an activity -/
def mwM (p:Aa) (j i:Nat):Int:=match p.2.1[i]? with | some a => lstV (fun m => m.1 * atV false (j:Int) m) a (iotaI a.2.2.1.length) | none => 0
theorem mul_20 {a c:Int} (h1:0 <= a) (h2:a <= 12) (h3:0 <= c) (h4:c <= 20):0 <= a * c /\ a * c <= 240:=by
 have e1:=Int.mul_nonneg h1 h3
 have e2:a * c <= 12 * 20:=Int.mul_le_mul h2 h4 h3 (by omega)
 omega
theorem Wm (hp:Af 1099511627776 p) (hpj:projB p = true) {i j:Nat} (hi:i < p.2.1.length) (hj:j < p.2.2.2.1.length):(∀ u,Lw (p.2.1[i],iotaI p.2.1[i].2.2.1.length,(j:Int),u) () = some (mwM p j i,())) /\ 0 <= mwM p j i /\ mwM p j i <= 240:=by
 have hu:=Of hp hpj hi hj
 have hm:=Kw hpj hi
 have h3:=(Mg hpj hi).2
 have hcl:=Uo p.2.1[i] (iotaI p.2.1[i].2.2.1.length)
 have e:mwM p j i = lstV (fun m => m.1 * atV false (j:Int) m) p.2.1[i] (iotaI p.2.1[i].2.2.1.length):=by
  unfold mwM
  rw [List.getElem?_eq_getElem hi]
 have hO:=fun u => Pk (choL p.2.1[i] (iotaI p.2.1[i].2.2.1.length)) (fun v2 => (Option.bind (Ka v2 ((j:Int),())) fun v3 => (some v3.1))) (fun m => m.1 * atV false (j:Int) m) u (by omega) (fun m hmc => by
  have h1:=hu m (Ov m hmc)
  have h2:=hm m (Ov m hmc)
  have h4:=mul_20 (show 0 <= m.1 by omega) h2.2.1 h1.2.2.1 h1.2.2.2
  unfold Ka
  simp only [Sf _ _ _ h1.1 h1.2.1,Ab]
  have ew:mulZ .i64 m.1 (atV false (j:Int) m) = m.1 * atV false (j:Int) m:=Jr (by omega) (by omega)
  rw [ew])
 refine ⟨fun u => ?_,?_⟩
 ·unfold Lw
  simp only [Q0 _ _ _ (show p.2.1[i].2.2.1.length <= 1000000 by omega) (show (iotaI p.2.1[i].2.2.1.length).length <= 1099511627776 by rw [B0]; omega),Ab,hO,e]
  rfl
 ·rw [e]
  exact lstV_in _ (by omega) (by omega) fun m hmm => by
   have h1:=hu m hmm
   have h2:=hm m hmm
   exact mul_20 (show 0 <= m.1 by omega) h2.2.1 h1.2.2.1 h1.2.2.2
theorem Acr (hP:GenP 6 p) (h:okV p s = true) {j:Nat} (hj:j < p.2.2.2.1.length):sumI (mwM p j) p.2.1.length <= sumI (fun t => capV p.2.2.2.1[j].1 (t:Int)) (spanV p s).toNat:=by
 have hp:Af 1099511627776 p:=hP.sm (by omega) (by omega)
 have hf:=Di h
 have hpj:=Bc hf
 have z:=Ll p s
 have z2:=Uj hp h
 have hd:=hP.dl
 obtain ⟨n,hn⟩:∃ n,n = (spanV p s).toNat:=⟨_,rfl⟩
 rw [<- hn]
 have k1:sumI (mwM p j) p.2.1.length <= sumI (fun i => workM p (singD s) i j ((0:Nat):Int) ((0 + n:Nat):Int)) p.2.1.length:=sumI_le fun i hi => by
  have hS:=sing_at hp hf hi
  have a1:=ok_at hP h hi
  obtain ⟨m,hm,em,ee,t0,t6,d1,d2,hu,-⟩:=sch_at hp hf hi
  have e:mwM p j i = lstV (fun m => m.1 * atV false (j:Int) m) p.2.1[i] (iotaI p.2.1[i].2.2.1.length):=by
   unfold mwM
   rw [List.getElem?_eq_getElem hi]
  have eo:ovI (tsS s i) (endV p s (i:Int) - tsS s i) ((0:Nat):Int) ((0 + n:Nat):Int) = p.2.1[i].2.2.1[m].1:=by
   unfold ovI
   omega
  rw [hS.work j hj,eo,hu j hj,e]
  exact lstV_le (fun m => m.1 * atV false (j:Int) m) hm (Lm.2 (List.mem_map.2 ⟨m,List.mem_range.2 hm,rfl⟩))
 rw [<- Acd hp hf hj 0 n] at k1
 refine Int.le_trans k1 (sumI_le fun t ht => ?_)
 have:=cap_okD hp h hj (show t <= 60 by omega)
 rw [show ((0:Nat):Int) + (t:Int) = (t:Int) by omega]
 exact this
/-- there is capacity enough up to a time -/
def enB (p:Aa) (t k:Nat):Bool:=(List.range k).all fun j => match p.2.2.2.1[j]? with | some r => leZ (sumI (mwM p j) p.2.1.length) (sumI (fun t => capV r.1 (t:Int)) t) | none => true
theorem Acf {t k:Nat} (hk:k < p.2.2.2.1.length):enB p t (k + 1) = (enB p t k && leZ (sumI (mwM p k) p.2.1.length) (sumI (fun t => capV p.2.2.2.1[k].1 (t:Int)) t)):=by
 unfold enB
 rw [List.range_succ,List.all_append]
 simp [hk]
theorem Xi (hP:GenP 6 p) {P:Int} (hPz:0 <= P /\ P <= 112) (hB:∀ u,Bm (p,u) () = some (P,())):∃ w,(∀ u,Ek (p,u) () = some (w,())) /\ ∀ s,okV p s = true -> P <= spanV p s -> w <= spanV p s:=by
 have hp:Af 1099511627776 p:=hP.sm (by omega) (by omega)
 have hpj:=hP.ok (Nat.le_refl _)
 have h6:=hP.al
 have hr:=hP.rl
 have inner:=fun (j:Nat) (hj:j < p.2.2.2.1.length) (en:Bool) (t:Int) => Xx (F:=G7) (fun i (v:Int) => ((i:Int),(p.2.1.length:Int),p.2.1,(j:Int),en,v,p.2.2.2.1[j],(j:Int),(p.2.2.2.1.length:Int),p.2.2.2.1,t,p,())) p.2.1.length (mwM p j)
  (fun v => Sum.inl (false,(p.2.1.length:Int),(p.2.1.length:Int),p.2.1,(j:Int),en,v,p.2.2.2.1[j],(j:Int),(p.2.2.2.1.length:Int),p.2.2.2.1,t,p,())) (by omega)
  (fun i hi => by have:=(Wm hp hpj hi hj).2; omega)
  (fun i v hi v0 v1 => by
   obtain ⟨h1,h2⟩:=Wm hp hpj hi hj
   have h3:=(Mg hpj hi).2
   unfold G7
   simp only [lt_yes hi,if_true,getI_lt hi,Ab,I1 p.2.1[i] _ (show p.2.1[i].2.2.1.length <= 200 by omega),h1,idxN hi h6.2 (show 6 <= 1099511627776 by omega)]
   rw [addZ64 (by omega) (by omega)])
  (fun v => by
   unfold G7
   simp only [lt_no,Bool.false_eq_true,if_false])
  (s0:=((0:Int),(p.2.1.length:Int),p.2.1,(j:Int),en,0,p.2.2.2.1[j],(j:Int),(p.2.2.2.1.length:Int),p.2.2.2.1,t,p,())) rfl
 have mid:=fun (t:Nat) (ht:t <= 60) => Hn (F:=Hw) (fun j (en:Bool) => ((j:Int),(p.2.2.2.1.length:Int),p.2.2.2.1,en,(t:Int),p,())) p.2.2.2.1.length
  (fun j en => en = enB p t j) (fun en => Sum.inl (false,(p.2.2.2.1.length:Int),(p.2.2.2.1.length:Int),p.2.2.2.1,en,(t:Int),p,())) (by omega)
  (fun j en hj hI => by
   have hst:p.2.2.2.1[j].1.length <= 1099511627776:=(hp.2.2.2.1.2 _ (List.getElem_mem hj)).1.1
   have hc:=fun u => Zs (stepsD hpj hj) t hst ht u
   have hin:=inner j hj en (t:Int)
   refine ⟨enB p t (j + 1),?_,rfl⟩
   rw [Acf hj,<- hI]
   unfold Hw
   rcases tf en with rfl | rfl
   ·simp only [lt_yes hj,if_true,getI_lt hj,Ab,lenI_eq,hin,Bool.false_eq_true,if_false,Bool.false_and,idxN hj hr.2 (show 2 <= 1099511627776 by omega)]
   ·simp only [lt_yes hj,if_true,getI_lt hj,Ab,lenI_eq,hin,hc,Bool.true_and,idxN hj hr.2 (show 2 <= 1099511627776 by omega)])
  (fun en _ => by
   unfold Hw
   simp only [lt_no,Bool.false_eq_true,if_false])
  (a:=true) (s:=((0:Int),(p.2.2.2.1.length:Int),p.2.2.2.1,true,(t:Int),p,())) rfl rfl
 have hmx:∃ t0:Nat,maxI P 1 = (t0:Int) /\ 1 <= t0 /\ t0 <= 112 /\ P <= (t0:Int) /\ ∀ x:Int,P <= x -> 1 <= x -> (t0:Int) <= x:=by
  refine ⟨(maxI P 1).toNat,?_,?_,?_,?_,?_⟩ <;> unfold maxI <;> split <;> omega
 obtain ⟨t0,et,t1,t2,-,tx⟩:=hmx
 have goal:∀ w:Int,(w = 61 \/ ∃ t:Nat,w = (t:Int)) -> (∀ t:Nat,t0 <= t -> t <= 60 -> enB p t p.2.2.2.1.length = true -> w <= (t:Int)) -> ∀ s,okV p s = true -> P <= spanV p s -> w <= spanV p s:=fun w _ hw s ho hs => by
  have z0:=ok_at hP ho (show 0 < p.2.1.length by omega)
  have z2:=Uj hp ho
  have hd:=hP.dl
  have h1:=tx (spanV p s) hs (by omega)
  have hen:enB p (spanV p s).toNat p.2.2.2.1.length = true:=by
   unfold enB
   rw [List.all_eq_true]
   intro j hj
   have hj':=List.mem_range.1 hj
   rw [List.getElem?_eq_getElem hj']
   exact leZ_iff.2 (Acr hP ho hj')
  have:=hw (spanV p s).toNat (by omega) (by omega) hen
  omega
 rcases Nat.lt_or_ge 60 t0 with q | q
 ·refine ⟨61,fun u => ?_,goal 61 (.inl rfl) fun t ht1 ht2 => absurd ht2 (by omega)⟩
  have l0:∀ A:Type,loopN (A:=A) big Ci ((t0:Int),p,()) = some (.exit (Sum.inl (false,(t0:Int),p,()))):=fun A => Z8 (by
   have:leZ (t0:Int) 60 = false:=by rw [Bool.eq_false_iff,Ne,leZ_iff]; omega
   unfold Ci
   simp only [this,Bool.false_eq_true,if_false])
  unfold Ek
  simp only [Ay _ _ hp,hpj,Ak,Bool.false_eq_true,if_false,Ab,hB,et,l0]
 ·rcases Qd (F:=Ci) (fun i (_:Unit) => (((t0 + i:Nat):Int),p,())) (61 - t0) (fun i _ => ∀ t,t0 <= t -> t < t0 + i -> enB p t p.2.2.2.1.length = false)
   (fun b => ∃ x,b = Sum.inl x /\ ∀ t,t0 <= t -> t < 61 -> enB p t p.2.2.2.1.length = false) (fun c => ∃ t:Nat,c = ((t:Int),()) /\ ∀ t':Nat,t0 <= t' -> t' <= 60 -> enB p t' p.2.2.2.1.length = true -> (t:Int) <= (t':Int)) (by omega)
   (fun i _ hi hI => by
    by_cases h:i < 61 - t0
    ·obtain ⟨en,e1,h1⟩:=mid (t0 + i) (by omega)
     have hle:leZ ((t0 + i:Nat):Int) 60 = true:=leZ_iff.2 (by omega)
     rcases tf en with rfl | rfl
     ·refine .inl ⟨(),h,?_,fun t ht1 ht2 => ?_⟩
      ·have ei:addZ .i64 ((t0 + i:Nat):Int) 1 = ((t0 + (i + 1):Nat):Int):=by rw [addZ64 (by omega) (by omega)]; omega
       unfold Ci
       simp only [hle,if_true,lenI_eq,e1,Ab,Bool.false_eq_true,if_false,ei]
      ·by_cases q2:t = t0 + i
       ·subst q2; exact h1.symm
       ·exact hI t ht1 (by omega)
     ·refine .inr (.inr ⟨(((t0 + i:Nat):Int),()),?_,t0 + i,rfl,fun t' h2 h3 h4 => ?_⟩)
      ·unfold Ci
       simp only [hle,if_true,lenI_eq,e1,Ab]
      ·rcases Nat.lt_or_ge t' (t0 + i) with q2 | q2
       ·rw [hI t' h2 q2] at h4
        cases h4
       ·omega
    ·obtain rfl:i = 61 - t0:=by omega
     have hle:leZ ((t0 + (61 - t0):Nat):Int) 60 = false:=by rw [Bool.eq_false_iff,Ne,leZ_iff]; omega
     refine .inr (.inl ⟨Sum.inl (false,((t0 + (61 - t0):Nat):Int),p,()),?_,_,rfl,fun t ht1 ht2 => hI t ht1 (by omega)⟩)
     unfold Ci
     simp only [hle,Bool.false_eq_true,if_false])
   (a:=()) (s:=((t0:Int),p,())) rfl (fun t h1 h2 => absurd h2 (by omega)) with ⟨b,e,x,rfl,hx⟩ | ⟨c,e,t,rfl,ht⟩
  ·refine ⟨61,fun u => ?_,goal 61 (.inl rfl) fun t h1 h2 h3 => ?_⟩
   ·unfold Ek
    simp only [Ay _ _ hp,hpj,Ak,Bool.false_eq_true,if_false,Ab,hB,et,e]
   ·rw [hx t h1 (by omega)] at h3
    cases h3
  ·refine ⟨(t:Int),fun u => ?_,goal _ (.inr ⟨t,rfl⟩) ht⟩
   unfold Ek
   simp only [Ay _ _ hp,hpj,Ak,Bool.false_eq_true,if_false,Ab,hB,et,e]
/-! machines -/
theorem Rh {b:Ae} (h:UseD p b) {j:Nat} (hj:j < p.2.2.2.1.length) (h0:¬ 0 < p.2.2.2.1[j].2.1.length) (u:Unit):Ch (p,b,(j:Int),u) () = some (0,()):=by
 have hM:machBP p (j:Int) = false:=by rw [Q9 h.hp hj,Bool.eq_false_iff,Ne,ltZ_iff,lenI_eq]; omega
 have z:eqZ (lenI ([]:List Int)) 0 = true:=rfl
 have hC:∀ u,Dh (p,b,(j:Int),u) () = some ([],()):=fun u => by
  unfold Dh J5
  simp only [N3 _ _ _ h.hp h.hb,h.use,Iv,La _ _ _ h.hp,hM,if_true,Ab,Dj]
 unfold Ch
 simp only [hC,Ab,z,if_true]
theorem Vv (hP:GenP 6 p) (h2:p.2.1.length <= 2):∃ w,(∀ u,Cf (p,u) () = some (w,())) /\ ∀ s,okV p s = true -> w <= spanV p s:=by
 have hp:Af 1099511627776 p:=hP.sm (by omega) (by omega)
 have hpj:=hP.ok (Nat.le_refl _)
 have hr:=hP.rl
 have hU:=Wl hP
 have hI:=fun u => Og p u hp
 have ev:initV p = initD p:=by unfold initV; rw [if_pos hpj]
 rw [ev] at hI
 obtain ⟨w,e1,h1⟩:=Hn (F:=Co) (fun j (v:Int) => ((j:Int),(p.2.2.2.1.length:Int),p,v,())) p.2.2.2.1.length
  (fun j v => ∀ s,okV p s = true -> v <= spanV p s) (fun v => Sum.inl (false,(p.2.2.2.1.length:Int),(p.2.2.2.1.length:Int),p,v,())) (by omega)
  (fun j v hj hv => by
   have hb:∃ x,(∀ u,Ch (p,initD p,(j:Int),u) () = some (x,())) /\ ∀ s,okV p s = true -> x <= spanV p s:=by
    by_cases hpos:0 < p.2.2.2.1[j].2.1.length
    ·exact ⟨_,R0 hU hj hpos,fun s ho => Ach hU ho (X2 hP ho) hj hpos h2⟩
    ·exact ⟨0,Rh hU hj hpos,fun s ho => Ll p s⟩
   obtain ⟨x,ex,hx⟩:=hb
   refine ⟨maxI v x,?_,fun s ho => ?_⟩
   ·unfold Co
    simp only [lt_yes hj,if_true,hI,Ab,ex,idxN hj hr.2 (show 2 <= 1099511627776 by omega)]
   ·have:=hv s ho
    have:=hx s ho
    unfold maxI
    split <;> omega)
  (fun v _ => by
   unfold Co
   simp only [lt_no,Bool.false_eq_true,if_false])
  (a:=0) (s:=((0:Int),(p.2.2.2.1.length:Int),p,0,())) rfl (fun s ho => Ll p s)
 refine ⟨w,fun u => ?_,h1⟩
 unfold Cf
 simp only [Ay _ _ hp,hpj,Ak,Bool.false_eq_true,if_false,Ab,lenI_eq,e1]
/-- no valid schedule ends before the program's lower bound -/
theorem Lower_V (hP:GenP 6 p) (h2:p.2.1.length <= 2) {P:Int} (hPz:0 <= P /\ P <= 112) (hB:∀ u,Bm (p,u) () = some (P,())):∃ w,(∀ u,I9 (p,u) () = some (w,())) /\ ∀ s,okV p s = true -> P <= spanV p s -> w <= spanV p s:=by
 have hp:Af 1099511627776 p:=hP.sm (by omega) (by omega)
 have hpj:=hP.ok (Nat.le_refl _)
 obtain ⟨w1,e1,h1⟩:=Xi hP hPz hB
 obtain ⟨w2,e2,h3⟩:=Vv hP h2
 refine ⟨maxI (maxI (maxI P w1) w2) 1,fun u => ?_,fun s ho hs => ?_⟩
 ·have un:I9 (p,u) () = ((Ao (p,()) ()).map (·.1)).bind fun ok => if ok = true then ((Bm (p,()) ()).map (·.1)).bind fun a => ((Ek (p,()) ()).map (·.1)).bind fun b => ((Cf (p,()) ()).map (·.1)).bind fun c => some (maxI (maxI (maxI a b) c) 1,()) else some (0,()):=rfl
  rw [un,Ay p () hp,hpj,hB,e1,e2]
  rfl
 ·have k1:=h1 s ho hs
  have k2:=h3 s ho
  have h6:=hP.al
  have k3:=ok_at hP ho (show 0 < p.2.1.length by omega)
  have m:∀ x y z:Int,x <= z -> y <= z -> maxI x y <= z:=fun x y z hx hy => by unfold maxI; split <;> omega
  exact m _ _ _ (m _ _ _ (m _ _ _ hs k1) k2) (by omega)
end Go.Proofs.YteggmejnpcfalaaGreat
