/-
  The meta layer, part 34: loops that mark the elements of a list one after the other, and loops that look whether the marks are held.
-/
import Derived.Test.YtbkefganebmlnaaGreatDoorN33
namespace Go.Abs
set_option linter.unusedVariables false
set_option linter.unusedSimpArgs false
def cntS {E:Type} (cnt:E -> Nat) (l:List E):Nat:=(l.map cnt).sum
theorem Sn {E:Type} (cnt:E -> Nat) {l:List E} {i:Nat} (h:i < l.length):cntS cnt (l.take (i + 1)) = cntS cnt (l.take i) + cnt l[i]:=by
 unfold cntS
 rw [List.take_succ_eq_append_getElem h,List.map_append,List.sum_append]
 simp
theorem cntS_le {E:Type} (cnt:E -> Nat) {l:List E} {i:Nat} (h:i < l.length):cntS cnt (l.take i) + cnt l[i] <= cntS cnt l:=by
 rw [<- Sn cnt h]
 conv => rhs; rw [<- List.take_append_drop (i + 1) l]
 unfold cntS
 rw [List.map_append,List.sum_append]
 omega
theorem Ad6 {E:Type} (cnt:E -> Nat) (c:Nat):∀ (l:List E),(∀ e ∈ l,cnt e <= c) -> cntS cnt l <= l.length * c
 | [],_ => by simp [cntS]
 | e :: l,h => by
  have h1:=h e (by simp)
  have h2:=Ad6 cnt c l fun e he => h e (by simp [he])
  unfold cntS at h2 ⊢
  simp only [List.map_cons,List.sum_cons,List.length_cons,Nat.succ_mul]
  omega
theorem Q6 {α:Type} {l:List α} {i j:Nat} {f:α -> α} (h:j ≠ i):getI (setI l (i:Int) f) (j:Int) = getI l (j:Int):=by
 rw [Nu,Nu]
 unfold setI
 rw [show ((i:Int)).toNat = i from by omega,List.getElem?_modify]
 simp [Ne.symm h]
theorem Aaz {α:Type} {l:List α} {i:Nat} {x y:α} (h:getI l (i:Int) = some y):getI (setI l (i:Int) (fun _ => x)) (i:Int) = some x:=by
 rw [Nu] at h ⊢
 unfold setI
 rw [show ((i:Int)).toNat = i from by omega,List.getElem?_modify,h]
 simp
theorem Aiz {α:Type} {l:List α} {i:Nat} {f:α -> α}:getI (setI l (i:Int) f) (i:Int) = (getI l (i:Int)).map f:=by
 rw [Nu,Nu]
 unfold setI
 rw [show ((i:Int)).toNat = i from by omega,List.getElem?_modify]
 simp
theorem Ai3 {α:Type} {l:List α} {i:Int} {f g:α -> α}:setI (setI l i f) i g = setI l i (fun x => g (f x)):=by
 unfold setI
 rw [List.modify_modify_eq]
 rfl
theorem Aik {α:Type} {l:List α} {i:Nat} {f:α -> α} {x:α} (h:getI l (i:Int) = some x):setI l (i:Int) f = setI l (i:Int) (fun _ => f x):=by
 rw [Nu] at h
 unfold setI
 rw [show ((i:Int)).toNat = i from by omega]
 apply List.ext_getElem?
 intro j
 rw [List.getElem?_modify,List.getElem?_modify]
 by_cases e:i = j
 ·subst e
  simp [h]
 ·simp [e]
theorem Ai0 {E C C':Type} {F:Int × (Int × (List E × Unit)) -> Option (Out (Int × (Int × (List E × Unit))) ((Bool × (Int × (Int × (List E × Unit)))) ⊕ Empty) C)}
  {G:Int × (List E × (Int × Unit)) -> Option (Out (Int × (List E × (Int × Unit))) ((Bool × (Int × (List E × (Int × Unit)))) ⊕ Empty) C')} (cnt:E -> Nat) (R:E -> Int -> E -> Prop) (l:List E) (k:Int)
  (h0:0 <= k) (hk:k + cntS cnt l <= 9000000000000000000) (hl:l.length <= 1099511627776)
  (hm:∀ (i:Nat) (hi:i < l.length) (out:List E) (k:Int),out.length = l.length -> getI out (i:Int) = some l[i] -> 0 <= k -> k + cnt l[i] <= 9000000000000000000 -> ∃ e',R l[i] k e' /\ F ((i:Int),k,out,()) = some (.norm (((i + 1:Nat):Int),k + cnt l[i],setI out (i:Int) (fun _ => e'),())))
  (he:∀ (out:List E) (k:Int),out.length = l.length -> ∃ b i',F ((l.length:Int),k,out,()) = some (.exit (Sum.inl (b,i',k,out,()))))
  (gm:∀ (i:Nat) (hi:i < l.length) (x:List E) (k:Int) (e':E),x.length = l.length -> getI x (i:Int) = some e' -> R l[i] k e' -> 0 <= k -> k + cnt l[i] <= 9000000000000000000 -> G ((i:Int),x,k,()) = some (.norm (((i + 1:Nat):Int),x,k + cnt l[i],())))
  (ge:∀ (x:List E) (k:Int),x.length = l.length -> ∃ b i',G ((l.length:Int),x,k,()) = some (.exit (Sum.inl (b,i',x,k,())))) :
  ∃ x':List E,x'.length = l.length /\ (∃ b i',loopN (A:=Int × (Int × (List E × Unit))) big F (0,k,l,()) = some (.exit (Sum.inl (b,i',k + cntS cnt l,x',())))) /\
   ∃ b i',loopN (A:=Int × (List E × (Int × Unit))) big G (0,x',k,()) = some (.exit (Sum.inl (b,i',x',k + cntS cnt l,()))):=by
 have h1:∃ o,loopN (A:=Int × (Int × (List E × Unit))) big F (0,k,l,()) = some o /\ ∃ b i' x',o = .exit (Sum.inl (b,i',k + cntS cnt l,x',())) /\ x'.length = l.length /\ ∀ j (hj:j < l.length),∃ e',getI x' (j:Int) = some e' /\ R l[j] (k + cntS cnt (l.take j)) e':=by
  refine A5 l.length (fun i s => ∃ out,s = ((i:Int),k + cntS cnt (l.take i),out,()) /\ out.length = l.length /\ (∀ j (hj:j < l.length),i <= j -> getI out (j:Int) = some l[j]) /\ ∀ j (hj:j < l.length),j < i -> ∃ e',getI out (j:Int) = some e' /\ R l[j] (k + cntS cnt (l.take j)) e') _ ?_ ⟨l,by simp [cntS],rfl,fun j hj _ => getI_lt hj,fun j _ hj => absurd hj (by omega)⟩ (lt_bigN hl)
  rintro i s hi ⟨out,rfl,g1,g2,g3⟩
  by_cases h:i < l.length
  ·have hle:=cntS_le cnt h
   obtain ⟨e',r,e⟩:=hm i h out (k + cntS cnt (l.take i)) g1 (g2 i h (Nat.le_refl _)) (by omega) (by omega)
   refine ⟨_,e,h,setI out (i:Int) (fun _ => e'),?_,by rw [Oe]; exact g1,fun j hj hij => ?_,fun j hj hji => ?_⟩
   ·rw [Sn cnt h]
    congr 2
    omega
   ·rw [Q6 (by omega)]
    exact g2 j hj (by omega)
   ·by_cases hji':j = i
    ·subst hji'
     exact ⟨e',Aaz (g2 j hj (Nat.le_refl _)),r⟩
    ·rw [Q6 hji']
     exact g3 j hj (by omega)
  ·obtain rfl:i = l.length:=by omega
   obtain ⟨b,i',e⟩:=he out (k + cntS cnt (l.take l.length)) g1
   refine ⟨_,e,b,i',out,by rw [List.take_length],g1,fun j hj => g3 j hj hj⟩
 obtain ⟨o,ho,b,i',x',rfl,hx,hR⟩:=h1
 refine ⟨x',hx,⟨b,i',ho⟩,?_⟩
 have h2:∃ o,loopN (A:=Int × (List E × (Int × Unit))) big G (0,x',k,()) = some o /\ ∃ b i',o = .exit (Sum.inl (b,i',x',k + cntS cnt l,())):=by
  refine A5 l.length (fun i s => s = ((i:Int),x',k + cntS cnt (l.take i),())) _ ?_ (by simp [cntS]) (lt_bigN hl)
  rintro i s hi rfl
  by_cases h:i < l.length
  ·have hle:=cntS_le cnt h
   obtain ⟨e',r1,r2⟩:=hR i h
   refine ⟨_,gm i h x' (k + cntS cnt (l.take i)) e' hx r1 r2 (by omega) (by omega),h,?_⟩
   rw [Sn cnt h]
   congr 3
   omega
  ·obtain rfl:i = l.length:=by omega
   obtain ⟨b,i',e⟩:=ge x' (k + cntS cnt (l.take l.length)) hx
   exact ⟨_,e,b,i',by rw [List.take_length]⟩
 obtain ⟨o,ho,b,i',rfl⟩:=h2
 exact ⟨b,i',ho⟩
theorem addP {k:Int} {c:Int} (h0:0 <= k) (hc:0 <= c) (h:k + c <= 9000000000000000000):addZ .i64 k c = k + c:=addZ64 (by omega) (by omega)
end Go.Abs
