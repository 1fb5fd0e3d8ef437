/-
  The meta layer, part 31: loops over a list: all elements hold, the first that holds, a fold; texts and numbers.
-/
import Derived.Test.YtbkefganebmlnaaGreatDoorN30
namespace Go.Abs
set_option linter.unusedVariables false
set_option linter.unusedSimpArgs false
theorem Ahk {σ A B C E:Type} {F:σ -> Option (Out σ B C)} (emb:Nat -> σ) (l:List E) (q:E -> Bool) (b:B) (c:C) (hn:l.length <= 1099511627776)
  (ht:∀ i (h:i < l.length),q l[i] = true -> F (emb i) = some (.norm (emb (i + 1)))) (hf:∀ i (h:i < l.length),q l[i] = false -> F (emb i) = some (.ret c)) (he:F (emb l.length) = some (.exit b)) :
  loopN (A:=A) big F (emb 0) = some (if l.all q then .exit b else .ret c):=by
 have hl:∃ o,loopN (A:=A) big F (emb 0) = some o /\ o = (if l.all q then .exit b else .ret c):=by
  refine A5 l.length (fun i s => s = emb i /\ (l.take i).all q = true) _ ?_ ⟨rfl,by simp⟩ (lt_bigN hn)
  rintro i s hi ⟨rfl,ha⟩
  by_cases h:i < l.length
  ·cases hq:q l[i] with
   | true =>
    refine ⟨_,ht i h hq,h,rfl,?_⟩
    rw [List.take_succ_eq_append_getElem h,List.all_append,ha]
    simp [hq]
   | false =>
    refine ⟨_,hf i h hq,?_⟩
    have:l.all q = false:=by
     rw [List.all_eq_false]
     exact ⟨l[i],List.getElem_mem h,by simp [hq]⟩
    rw [this]; rfl
  ·obtain rfl:i = l.length:=by omega
   refine ⟨_,he,?_⟩
   rw [List.take_length] at ha
   rw [ha]; rfl
 obtain ⟨o,ho,rfl⟩:=hl
 exact ho
theorem Aaf {σ A B C:Type} {F:σ -> Option (Out σ B C)} (emb:Nat -> σ) (n:Nat) (q:Nat -> Bool) (b:B) (c:C) (hn:n <= 1099511627776)
  (ht:∀ i,i < n -> q i = true -> F (emb i) = some (.norm (emb (i + 1)))) (hf:∀ i,i < n -> q i = false -> F (emb i) = some (.ret c)) (he:F (emb n) = some (.exit b)) :
  loopN (A:=A) big F (emb 0) = some (if (List.range n).all q then .exit b else .ret c):=by
 have hl:∃ o,loopN (A:=A) big F (emb 0) = some o /\ o = (if (List.range n).all q then .exit b else .ret c):=by
  refine A5 n (fun i s => s = emb i /\ ∀ j,j < i -> q j = true) _ ?_ ⟨rfl,fun j hj => absurd hj (by omega)⟩ (lt_bigN hn)
  rintro i s hi ⟨rfl,ha⟩
  by_cases h:i < n
  ·cases hq:q i with
   | true =>
    refine ⟨_,ht i h hq,h,rfl,fun j hj => ?_⟩
    by_cases e:j = i
    ·subst e; exact hq
    ·exact ha j (by omega)
   | false =>
    refine ⟨_,hf i h hq,?_⟩
    have:(List.range n).all q = false:=by
     rw [List.all_eq_false]
     exact ⟨i,by simp [h],by simp [hq]⟩
    rw [this]; rfl
  ·obtain rfl:i = n:=by omega
   refine ⟨_,he,?_⟩
   have:(List.range i).all q = true:=by
    rw [List.all_eq_true]
    intro j hj
    exact ha j (by simpa using hj)
   rw [this]; rfl
 obtain ⟨o,ho,rfl⟩:=hl
 exact ho
theorem Af6 {σ A B C E:Type} {F:σ -> Option (Out σ B C)} (emb:Nat -> σ) (l:List E) (q:E -> Bool) (b:B) (c:Nat -> C) (hn:l.length <= 1099511627776)
  (ht:∀ i (h:i < l.length),q l[i] = true -> F (emb i) = some (.ret (c i))) (hf:∀ i (h:i < l.length),q l[i] = false -> F (emb i) = some (.norm (emb (i + 1)))) (he:F (emb l.length) = some (.exit b)) :
  loopN (A:=A) big F (emb 0) = some (match l.findIdx? q with | some i => .ret (c i) | none => .exit b):=by
 have hl:∃ o,loopN (A:=A) big F (emb 0) = some o /\ o = (match l.findIdx? q with | some i => .ret (c i) | none => .exit b):=by
  refine A5 l.length (fun i s => s = emb i /\ ∀ j (hj:j < l.length),j < i -> q l[j] = false) _ ?_ ⟨rfl,fun j _ hj => absurd hj (by omega)⟩ (lt_bigN hn)
  rintro i s hi ⟨rfl,ha⟩
  by_cases h:i < l.length
  ·cases hq:q l[i] with
   | false =>
    refine ⟨_,hf i h hq,h,rfl,fun j hj hji => ?_⟩
    by_cases e:j = i
    ·subst e; exact hq
    ·exact ha j hj (by omega)
   | true =>
    refine ⟨_,ht i h hq,?_⟩
    have:l.findIdx? q = some i:=by
     rw [List.findIdx?_eq_some_iff_getElem]
     exact ⟨h,hq,fun j hj => by simp [ha j (by omega) hj]⟩
    rw [this]
  ·obtain rfl:i = l.length:=by omega
   refine ⟨_,he,?_⟩
   have:l.findIdx? q = none:=by
    rw [List.findIdx?_eq_none_iff]
    intro x hx
    obtain ⟨j,hj,rfl⟩:=List.mem_iff_getElem.1 hx
    exact ha j hj hj
   rw [this]
 obtain ⟨o,ho,rfl⟩:=hl
 exact ho
def runI {α β:Type} (step:Nat -> α -> Sum α β) (fin:α -> β):(k i:Nat) -> α -> β
 | 0,_,a => fin a
 | k + 1,i,a => match step i a with
  | .inl a' => runI step fin k (i + 1) a'
  | .inr b => b
theorem Ajl {σ A B C α:Type} {F:σ -> Option (Out σ B C)} (emb:Nat -> α -> σ) (n:Nat) (I:Nat -> α -> Prop) (step:Nat -> α -> Sum α (Out A B C)) (fin:α -> Out A B C) (hn:n <= 1099511627776)
  (hs:∀ i a,i < n -> I i a -> (∀ a',step i a = .inl a' -> F (emb i a) = some (.norm (emb (i + 1) a')) /\ I (i + 1) a') /\ (∀ o,step i a = .inr o -> (∃ b,o = .exit b /\ F (emb i a) = some (.exit b)) \/ ∃ c,o = .ret c /\ F (emb i a) = some (.ret c)))
  (he:∀ a,I n a -> (∃ b,fin a = .exit b /\ F (emb n a) = some (.exit b)) \/ ∃ c,fin a = .ret c /\ F (emb n a) = some (.ret c)) {a:α} (h0:I 0 a) :
  loopN (A:=A) big F (emb 0 a) = some (runI step fin n 0 a):=by
 have key:∀ (k i N:Nat) (a:α),i + k = n -> k < N -> I i a -> loopN (A:=A) N F (emb i a) = some (runI step fin k i a):=by
  intro k
  induction k with
  | zero =>
   intro i N a hk hN hI
   obtain ⟨N,rfl⟩:∃ M,N = M + 1:=⟨N - 1,by omega⟩
   obtain rfl:i = n:=by omega
   rcases he a hI with ⟨b,e1,e2⟩ | ⟨c,e1,e2⟩ <;> simp only [loopN,e2,runI,e1] <;> rfl
  | succ k ih =>
   intro i N a hk hN hI
   obtain ⟨N,rfl⟩:∃ M,N = M + 1:=⟨N - 1,by omega⟩
   obtain ⟨h1,h2⟩:=hs i a (by omega) hI
   cases hst:step i a with
   | inl a' =>
    obtain ⟨e1,e2⟩:=h1 a' hst
    simp only [loopN,e1,runI,hst]
    exact ih (i + 1) N a' (by omega) (by omega) e2
   | inr o =>
    rcases h2 o hst with ⟨b,rfl,e2⟩ | ⟨c,rfl,e2⟩ <;> simp only [loopN,e2,runI,hst] <;> rfl
 exact key n 0 big a (by omega) (lt_bigN hn) h0
def foldN {α:Type} (f:Nat -> α -> α):(k i:Nat) -> α -> α
 | 0,_,a => a
 | k + 1,i,a => foldN f k (i + 1) (f i a)
theorem Abd {σ A B C α:Type} {F:σ -> Option (Out σ B C)} (emb:Nat -> α -> σ) (n:Nat) (I:Nat -> α -> Prop) (f:Nat -> α -> α) (b:α -> B) (hn:n <= 1099511627776)
  (hs:∀ i a,i < n -> I i a -> F (emb i a) = some (.norm (emb (i + 1) (f i a))) /\ I (i + 1) (f i a)) (he:∀ a,I n a -> F (emb n a) = some (.exit (b a))) {a:α} (h0:I 0 a) :
  loopN (A:=A) big F (emb 0 a) = some (.exit (b (foldN f n 0 a))) /\ I n (foldN f n 0 a):=by
 have key:∀ (k i N:Nat) (a:α),i + k = n -> k < N -> I i a -> loopN (A:=A) N F (emb i a) = some (.exit (b (foldN f k i a))) /\ I n (foldN f k i a):=by
  intro k
  induction k with
  | zero =>
   intro i N a hk hN hI
   obtain ⟨N,rfl⟩:∃ M,N = M + 1:=⟨N - 1,by omega⟩
   obtain rfl:i = n:=by omega
   exact ⟨by simp only [loopN,he a hI,foldN]; rfl,hI⟩
  | succ k ih =>
   intro i N a hk hN hI
   obtain ⟨N,rfl⟩:∃ M,N = M + 1:=⟨N - 1,by omega⟩
   obtain ⟨h1,h2⟩:=hs i a (by omega) hI
   simp only [loopN,h1,foldN]
   exact ih (i + 1) N (f i a) (by omega) (by omega) h2
 exact key n 0 big a (by omega) (lt_bigN hn) h0
theorem Tm {α E:Type} (g:α -> E -> α):∀ (l:List E) (pre:List E) (a:α) (f:Nat -> α -> α),(∀ i a (h:i < (pre ++ l).length),f i a = g a (pre ++ l)[i]) -> foldN f l.length pre.length a = l.foldl g a
 | [],_,_,_,_ => rfl
 | x :: l,pre,a,f,h => by
  simp only [List.length_cons,foldN,List.foldl_cons]
  have h1:f pre.length a = g a x:=by rw [h pre.length a (by simp)]; simp
  rw [h1]
  have:=Tm g l (pre ++ [x]) (g a x) f (fun i a hi => by
   have e:pre ++ [x] ++ l = pre ++ x :: l:=by simp
   have hi':i < (pre ++ x :: l).length:=by rw [<- e]; exact hi
   rw [h i a hi']
   congr 1
   simp)
  rw [List.length_append] at this
  exact this
theorem eqZ_dec (x y:Int):eqZ x y = decide (x = y):=by simp [eqZ]; rfl
theorem ltZ_dec (x y:Int):ltZ x y = decide (x < y):=rfl
theorem leZ_dec (x y:Int):leZ x y = decide (x <= y):=rfl
theorem Aji (b:Bool):notB b = !b:=rfl
theorem eqB_dec (x y:Bool):eqB x y = (x == y):=rfl
theorem Ai8 {α:Type} (b:Bool) (x y:α):iteB b x y = if b = true then x else y:=by cases b <;> rfl
end Go.Abs
