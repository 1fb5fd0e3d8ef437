/-
  The meta layer, part 35: loops that gather, over a list; numbers in a row; choices.
-/
import Derived.Test.YteggmejnpcfalaaGreatN34
namespace Go.Abs
set_option linter.unusedVariables false
set_option linter.unusedSimpArgs false
theorem Ee {σ A B C α E:Type} {F:σ -> Option (Out σ B C)} (emb:Nat -> α -> σ) (l:List E) (I:Nat -> α -> Prop) (g:α -> E -> α) (b:α -> B) (hn:l.length <= 1099511627776)
  (hs:∀ i a (h:i < l.length),I i a -> F (emb i a) = some (.norm (emb (i + 1) (g a l[i]))) /\ I (i + 1) (g a l[i])) (he:∀ a,I l.length a -> F (emb l.length a) = some (.exit (b a))) {a:α} {s:σ} (hs0:s = emb 0 a) (h0:I 0 a) :
  loopN (A:=A) big F s = some (.exit (b (l.foldl g a))) /\ I l.length (l.foldl g a):=by
 subst hs0
 have hf:∀ (i:Nat) (a:α) (h:i < l.length),(match l[i]? with | some x => g a x | none => a) = g a l[i]:=fun i a h => by rw [List.getElem?_eq_getElem h]
 have key:=B6 (A:=A) (F:=F) (C:=C) emb l.length I (fun i a => match l[i]? with | some x => g a x | none => a) b hn (fun i a hi hI => by rw [hf i a hi]; exact hs i a hi hI) he h0
 have e:=O7 g l [] a (fun i a => match l[i]? with | some x => g a x | none => a) fun i a h => hf i a h
 rw [show ([]:List E).length = 0 from rfl] at e
 rw [e] at key
 exact key
theorem foldl_filter {E:Type} (q:E -> Bool):∀ (l out:List E),l.foldl (fun out x => if q x = true then out ++ [x] else out) out = out ++ l.filter q
 | [],out => by simp
 | x :: l,out => by
  simp only [List.foldl_cons]
  rw [foldl_filter q l]
  cases h:q x <;> simp [h]
theorem foldl_append {E:Type}:∀ (l out:List E),l.foldl (fun out x => out ++ [x]) out = out ++ l
 | [],out => by simp
 | x :: l,out => by
  simp only [List.foldl_cons]
  rw [foldl_append l]
  simp
def iotaI (n:Nat):List Int:=(List.range n).map fun (i:Nat) => (i:Int)
theorem B0 (n:Nat):(iotaI n).length = n:=by simp [iotaI]
theorem Aat {n i:Nat} (h:i < (iotaI n).length):(iotaI n)[i] = (i:Int):=by simp [iotaI]
theorem H3 {n:Nat} {x:Int} (h:x ∈ iotaI n):∃ i:Nat,x = (i:Int) /\ i < n:=by
 simp only [iotaI,List.mem_map,List.mem_range] at h
 obtain ⟨i,hi,rfl⟩:=h
 exact ⟨i,rfl,hi⟩
theorem Zd (n:Nat):iotaI (n + 1) = iotaI n ++ [(n:Int)]:=by simp [iotaI,List.range_succ]
theorem Fw {α:Type} (g:α -> Int -> α):∀ (n:Nat) (a:α),foldN (fun i a => g a (i:Int)) n 0 a = (iotaI n).foldl g a:=by
 intro n a
 have:=O7 g (iotaI n) [] a (fun i a => g a (i:Int)) fun i a h => by
  have h':i < (iotaI n).length:=by simpa using h
  simp only [List.nil_append]
  rw [Aat h']
 rw [B0] at this
 exact this
end Go.Abs
