/-
  The meta layer, part 29: the loops that copy a list, compare a list with itself, or measure one.
-/
import Derived.Test.YtbkefganebmlnaaGreatDoorN28
namespace Go.Abs
set_option linter.unusedVariables false
set_option linter.unusedSimpArgs false
theorem lt_yes {i n:Nat} (h:i < n):ltZ (i:Int) (n:Int) = true:=by rw [ltZ_iff]; omega
theorem lt_no (n:Nat):ltZ (n:Int) (n:Int) = false:=by rw [Bool.eq_false_iff,Ne,ltZ_iff]; omega
theorem Ai9 {i n:Nat} (h:i < n) (hn:n <= 1048576):addZ .i64 (i:Int) 1 = ((i + 1:Nat):Int):=by rw [addZ64 (by omega) (by omega)]; omega
theorem lt_big {n:Nat} (h:n <= 1048576):n < big:=by rw [big_eq]; omega
theorem neg_no {x:Int} (h:0 <= x):ltZ x 0 = false:=by rw [Bool.eq_false_iff,Ne,ltZ_iff]; omega
theorem neg_yes {x:Int} (h:x < 0):ltZ x 0 = true:=by rw [ltZ_iff]; exact h
theorem Ais {E C:Type} {z:E} {x:List E} {F:Int × (List E × (List E × Unit)) -> Option (Out (Int × (List E × (List E × Unit))) ((Bool × (Int × (List E × (List E × Unit)))) ⊕ Empty) C)} (hx:x.length <= 1048576)
  (hs:∀ (i:Nat) (h:i < x.length) (out:List E),out.length = x.length -> F ((i:Int),x,out,()) = some (.norm (((i + 1:Nat):Int),x,setI out (i:Int) (fun _ => x[i]),())))
  (he:∀ out:List E,out.length = x.length -> ∃ b i',F ((x.length:Int),x,out,()) = some (.exit (Sum.inl (b,i',x,out,())))) :
  ∃ b i',loopN (A:=Int × (List E × (List E × Unit))) big F (0,x,List.replicate x.length z,()) = some (.exit (Sum.inl (b,i',x,x,()))):=by
 have hl:∃ o,loopN (A:=Int × (List E × (List E × Unit))) big F (0,x,List.replicate x.length z,()) = some o /\ ∃ b i',o = .exit (Sum.inl (b,i',x,x,())):=by
  refine A5 x.length (fun (i:Nat) s => s.1 = (i:Int) /\ s.2.1 = x /\ s.2.2.1 = x.take i ++ List.replicate (x.length - i) z) _ ?_ ⟨rfl,rfl,by simp⟩ (lt_big hx)
  rintro i ⟨j,y,out,u⟩ hi ⟨h1,h2,h3⟩
  obtain rfl:j = i:=h1
  obtain rfl:y = x:=h2
  obtain rfl:out = y.take i ++ List.replicate (y.length - i) z:=h3
  by_cases h:i < y.length
  ·refine ⟨_,hs i h _ (Pm y z hi),h,rfl,rfl,Aai y z h⟩
  ·obtain rfl:i = y.length:=by omega
   obtain ⟨b,i',hb⟩:=he _ (Pm y z hi)
   exact ⟨_,hb,b,i',by simp⟩
 obtain ⟨o,ho,b,i',rfl⟩:=hl
 exact ⟨b,i',ho⟩
theorem Aiv {E C B:Type} {x:List E} {F:Int × (List E × (List E × Unit)) -> Option (Out (Int × (List E × (List E × Unit))) (B ⊕ Empty) C)} (hx:x.length <= 1048576)
  (hs:∀ (i:Nat) (h:i < x.length),F ((i:Int),x,x,()) = some (.norm (((i + 1:Nat):Int),x,x,()))) (he:∃ v,F ((x.length:Int),x,x,()) = some (.exit (Sum.inl v))) :
  ∃ v,loopN (A:=Int × (List E × (List E × Unit))) big F (0,x,x,()) = some (.exit (Sum.inl v)):=by
 have hl:∃ o,loopN (A:=Int × (List E × (List E × Unit))) big F (0,x,x,()) = some o /\ ∃ v,o = .exit (Sum.inl v):=by
  refine A5 x.length (fun (i:Nat) s => s.1 = (i:Int) /\ s.2.1 = x /\ s.2.2.1 = x) _ ?_ ⟨rfl,rfl,rfl⟩ (lt_big hx)
  rintro i ⟨j,y,w,u⟩ hi ⟨h1,h2,h3⟩
  obtain rfl:j = i:=h1
  obtain rfl:y = x:=h2
  obtain rfl:w = y:=h3
  by_cases h:i < w.length
  ·exact ⟨_,hs i h,h,rfl,rfl,rfl⟩
  ·obtain rfl:i = w.length:=by omega
   obtain ⟨v,hv⟩:=he
   exact ⟨_,hv,v,rfl⟩
 obtain ⟨o,ho,v,rfl⟩:=hl
 exact ⟨v,ho⟩
theorem Ai2 {E C:Type} (Sm:E -> Prop) (c:C) {x:List E} {left:Int} {F:Int × (List E × (Int × Unit)) -> Option (Out (Int × (List E × (Int × Unit))) ((Bool × (Int × (List E × (Int × Unit)))) ⊕ Empty) C)} (hx:x.length <= 1048576) (h0:0 <= left) (h1:left <= 1048576)
  (hs:∀ (i:Nat) (h:i < x.length) (l:Int),0 <= l -> l <= 1048576 -> F ((i:Int),x,l,()) = some (.ret c) \/ ∃ r,0 <= r /\ r <= l /\ Sm x[i] /\ F ((i:Int),x,l,()) = some (.norm (((i + 1:Nat):Int),x,r,())))
  (he:∀ l:Int,∃ b i',F ((x.length:Int),x,l,()) = some (.exit (Sum.inl (b,i',x,l,())))) :
  loopN (A:=Int × (List E × (Int × Unit))) big F (0,x,left,()) = some (.ret c) \/ ∃ b i' r,0 <= r /\ r <= left /\ (∀ y ∈ x,Sm y) /\ loopN (A:=Int × (List E × (Int × Unit))) big F (0,x,left,()) = some (.exit (Sum.inl (b,i',x,r,()))):=by
 have hl:∃ o,loopN (A:=Int × (List E × (Int × Unit))) big F (0,x,left,()) = some o /\ (o = .ret c \/ ∃ b i' r,0 <= r /\ r <= left /\ (∀ y ∈ x,Sm y) /\ o = .exit (Sum.inl (b,i',x,r,()))):=by
  refine A5 x.length (fun (i:Nat) s => s.1 = (i:Int) /\ s.2.1 = x /\ 0 <= s.2.2.1 /\ s.2.2.1 <= left /\ ∀ j (hj:j < x.length),j < i -> Sm x[j]) _ ?_ ⟨rfl,rfl,h0,Int.le_refl _,fun j _ hj => absurd hj (by omega)⟩ (lt_big hx)
  rintro i ⟨j,y,l,u⟩ hi ⟨h1',h2,h3,h4,h5⟩
  obtain rfl:j = i:=h1'
  obtain rfl:y = x:=h2
  replace h3:0 <= l:=h3
  replace h4:l <= left:=h4
  replace h5:∀ j (hj:j < y.length),j < i -> Sm y[j]:=h5
  by_cases h:i < y.length
  ·rcases hs i h l h3 (by omega) with hr | ⟨r,k1,k2,k3,k4⟩
   ·exact ⟨_,hr,.inl rfl⟩
   ·refine ⟨_,k4,h,rfl,rfl,k1,by show r <= left; omega,fun j hj hji => ?_⟩
    by_cases e:j = i
    ·subst e; exact k3
    ·exact h5 j hj (by omega)
  ·obtain rfl:i = y.length:=by omega
   obtain ⟨b,i',hb⟩:=he l
   refine ⟨_,hb,.inr ⟨b,i',l,h3,h4,fun v hv => ?_,rfl⟩⟩
   obtain ⟨j,hj,rfl⟩:=List.mem_iff_getElem.1 hv
   exact h5 j hj hj
 obtain ⟨o,ho,rfl | ⟨b,i',r,k1,k2,k3,rfl⟩⟩:=hl
 ·exact .inl ho
 ·exact .inr ⟨b,i',r,k1,k2,k3,ho⟩
theorem Aav {E:Type} (x:List E) (left:Int) (h0:0 <= left) (h1:left <= 1048576) (hx:x.length <= maxLen):subZ .i64 left (lenI x) = left - x.length:=by
 rw [Af3] at hx
 exact subZ64 (by rw [lenI_eq]; omega) (by rw [lenI_eq]; omega)
end Go.Abs
