/-
  The meta layer, part 35: loops that gather, over a list; numbers in a row; choices.
-/
import Derived.Test.YtbkefganebmlnaaGreatDoorN34
namespace Go.Abs
set_option linter.unusedVariables false
set_option linter.unusedSimpArgs false
theorem Abr {α:Type} {f g:Nat -> α -> α}:∀ (k i:Nat) (a:α),(∀ j a,i <= j -> j < i + k -> f j a = g j a) -> foldN f k i a = foldN g k i a
 | 0,_,_,_ => rfl
 | k + 1,i,a,h => by
  simp only [foldN]
  rw [h i a (Nat.le_refl _) (by omega)]
  exact Abr k (i + 1) _ fun j a h1 h2 => h j a (by omega) (by omega)
theorem Sg {σ A B C α E:Type} {F:σ -> Option (Out σ B C)} (emb:Nat -> α -> σ) (l:List E) (I:Nat -> α -> Prop) (g:α -> E -> α) (b:α -> B) (hn:l.length <= 1099511627776)
  (hs:∀ i a (h:i < l.length),I i a -> F (emb i a) = some (.norm (emb (i + 1) (g a l[i]))) /\ I (i + 1) (g a l[i])) (he:∀ a,I l.length a -> F (emb l.length a) = some (.exit (b a))) {a:α} {s:σ} (hs0:s = emb 0 a) (h0:I 0 a) :
  loopN (A:=A) big F s = some (.exit (b (l.foldl g a))) /\ I l.length (l.foldl g a):=by
 subst hs0
 have hf:∀ (i:Nat) (a:α) (h:i < l.length),(match l[i]? with | some x => g a x | none => a) = g a l[i]:=fun i a h => by rw [List.getElem?_eq_getElem h]
 have key:=Abd (A:=A) (F:=F) (C:=C) emb l.length I (fun i a => match l[i]? with | some x => g a x | none => a) b hn (fun i a hi hI => by rw [hf i a hi]; exact hs i a hi hI) he h0
 have e:=Tm g l [] a (fun i a => match l[i]? with | some x => g a x | none => a) fun i a h => hf i a h
 rw [show ([]:List E).length = 0 from rfl] at e
 rw [e] at key
 exact key
theorem Aal {E:Type} (q:E -> Bool):∀ (l out:List E),l.foldl (fun out x => if q x = true then out ++ [x] else out) out = out ++ l.filter q
 | [],out => by simp
 | x :: l,out => by
  simp only [List.foldl_cons]
  rw [Aal q l]
  cases h:q x <;> simp [h]
theorem foldl_append {E:Type}:∀ (l out:List E),l.foldl (fun out x => out ++ [x]) out = out ++ l
 | [],out => by simp
 | x :: l,out => by
  simp only [List.foldl_cons]
  rw [foldl_append l]
  simp
def iotaI (n:Nat):List Int:=(List.range n).map fun (i:Nat) => (i:Int)
theorem Aax (n:Nat):(iotaI n).length = n:=by simp [iotaI]
theorem Afa {n i:Nat} (h:i < (iotaI n).length):(iotaI n)[i] = (i:Int):=by simp [iotaI]
theorem Aiy {n:Nat} {x:Int} (h:x ∈ iotaI n):∃ i:Nat,x = (i:Int) /\ i < n:=by
 simp only [iotaI,List.mem_map,List.mem_range] at h
 obtain ⟨i,hi,rfl⟩:=h
 exact ⟨i,rfl,hi⟩
theorem Ail (n:Nat):iotaI (n + 1) = iotaI n ++ [(n:Int)]:=by simp [iotaI,List.range_succ]
theorem Aim {α:Type} (g:α -> Int -> α):∀ (n:Nat) (a:α),foldN (fun i a => g a (i:Int)) n 0 a = (iotaI n).foldl g a:=by
 intro n a
 have:=Tm g (iotaI n) [] a (fun i a => g a (i:Int)) fun i a h => by
  have h':i < (iotaI n).length:=by simpa using h
  simp only [List.nil_append]
  rw [Afa h']
 rw [Aax] at this
 exact this
theorem maxI_if (x y:Int):(if ltZ y x = true then x else y) = maxI x y:=by
 unfold maxI ltZ
 by_cases h:y < x
 ·rw [if_pos (by simpa using h),if_neg (by omega)]
 ·rw [if_neg (by simpa using h)]
  by_cases h':y > x
  ·rw [if_pos h']
  ·rw [if_neg h']; omega
theorem minI_if (x y:Int):(if ltZ x y = true then x else y) = minI x y:=by
 unfold minI ltZ
 by_cases h:x < y
 ·rw [if_pos (by simpa using h),if_neg (by omega)]
 ·rw [if_neg (by simpa using h)]
  by_cases h':y < x
  ·rw [if_pos h']
  ·rw [if_neg h']; omega
theorem Ai5 {E C:Type} {F:Int × (Int × (List E × Unit)) -> Option (Out (Int × (Int × (List E × Unit))) ((Bool × (Int × (Int × (List E × Unit)))) ⊕ Empty) C)} (cnt:E -> Nat) (l:List E) (k:Int)
  (h0:0 <= k) (hk:k + cntS cnt l <= 9000000000000000000) (hl:l.length <= 1099511627776)
  (hm:∀ (i:Nat) (hi:i < l.length) (out:List E) (k:Int),out.length = l.length -> getI out (i:Int) = some l[i] -> 0 <= k -> k + cnt l[i] <= 9000000000000000000 -> ∃ e',F ((i:Int),k,out,()) = some (.norm (((i + 1:Nat):Int),k + cnt l[i],setI out (i:Int) (fun _ => e'),())))
  (he:∀ (out:List E) (k:Int),out.length = l.length -> ∃ b i',F ((l.length:Int),k,out,()) = some (.exit (Sum.inl (b,i',k,out,())))) :
  ∃ x':List E,∃ b i',loopN (A:=Int × (Int × (List E × Unit))) big F (0,k,l,()) = some (.exit (Sum.inl (b,i',k + cntS cnt l,x',()))):=by
 have h1:∃ o,loopN (A:=Int × (Int × (List E × Unit))) big F (0,k,l,()) = some o /\ ∃ b i' x',o = .exit (Sum.inl (b,i',k + cntS cnt l,x',())):=by
  refine A5 l.length (fun i s => ∃ out,s = ((i:Int),k + cntS cnt (l.take i),out,()) /\ out.length = l.length /\ (∀ j (hj:j < l.length),i <= j -> getI out (j:Int) = some l[j])) _ ?_ ⟨l,by simp [cntS],rfl,fun j hj _ => getI_lt hj⟩ (lt_bigN hl)
  rintro i s hi ⟨out,rfl,g1,g2⟩
  by_cases h:i < l.length
  ·have hle:=cntS_le cnt h
   obtain ⟨e',e⟩:=hm i h out (k + cntS cnt (l.take i)) g1 (g2 i h (Nat.le_refl _)) (by omega) (by omega)
   refine ⟨_,e,h,setI out (i:Int) (fun _ => e'),?_,by rw [Oe]; exact g1,fun j hj hij => ?_⟩
   ·rw [Sn cnt h]
    congr 2
    omega
   ·rw [Q6 (by omega)]
    exact g2 j hj (by omega)
  ·obtain rfl:i = l.length:=by omega
   obtain ⟨b,i',e⟩:=he out (k + cntS cnt (l.take l.length)) g1
   exact ⟨_,e,b,i',out,by rw [List.take_length]⟩
 obtain ⟨o,ho,b,i',x',rfl⟩:=h1
 exact ⟨x',b,i',ho⟩
end Go.Abs
