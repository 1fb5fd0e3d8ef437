/-
  The meta layer, part 32: loops over two lists of one length; chains of conditions.
-/
import Derived.Test.YtbkefganebmlnaaGreatDoorN31
namespace Go.Abs
set_option linter.unusedVariables false
set_option linter.unusedSimpArgs false
def eqLB {E:Type} (q:E -> E -> Bool) (x y:List E):Bool:=decide (x.length = y.length) && (List.range x.length).all fun i => match x[i]?,y[i]? with | some a,some b => q a b | _,_ => true
theorem Ajm {E:Type} {q:E -> E -> Bool} {x y:List E} (h:¬ x.length = y.length):eqLB q x y = false:=by simp [eqLB,h]
theorem Ae7 {σ A B C E:Type} {F:σ -> Option (Out σ B C)} (emb:Nat -> σ) (x y:List E) (hxy:x.length = y.length) (q:E -> E -> Bool) (b:B) (c:C) (hn:x.length <= 1099511627776)
  (ht:∀ i (h:i < x.length) (h':i < y.length),q x[i] y[i] = true -> F (emb i) = some (.norm (emb (i + 1)))) (hf:∀ i (h:i < x.length) (h':i < y.length),q x[i] y[i] = false -> F (emb i) = some (.ret c)) (he:F (emb x.length) = some (.exit b)) :
  loopN (A:=A) big F (emb 0) = some (if eqLB q x y then .exit b else .ret c):=by
 have:=Aaf (A:=A) emb x.length (fun i => match x[i]?,y[i]? with | some a,some b => q a b | _,_ => true) b c hn
  (fun i hi hq => ht i hi (by omega) (by rw [List.getElem?_eq_getElem hi,List.getElem?_eq_getElem (show i < y.length by omega)] at hq; exact hq))
  (fun i hi hq => hf i hi (by omega) (by rw [List.getElem?_eq_getElem hi,List.getElem?_eq_getElem (show i < y.length by omega)] at hq; exact hq)) he
 rw [this]
 simp only [eqLB,hxy,decide_true,Bool.true_and]
theorem Aiq {E:Type} {q q':E -> E -> Bool} {x y:List E} (h:∀ a ∈ x,∀ b ∈ y,q a b = q' a b):eqLB q x y = eqLB q' x y:=by
 unfold eqLB
 congr 1
 rw [Bool.eq_iff_iff,List.all_eq_true,List.all_eq_true]
 refine forall_congr' fun i => forall_congr' fun hi => ?_
 cases h1:x[i]? with
 | none => rfl
 | some a => cases h2:y[i]? with
  | none => rfl
  | some b =>
   simp only
   rw [h a (List.mem_of_getElem? h1) b (List.mem_of_getElem? h2)]
theorem eqZ_ne {x y:Int} (h:¬ x = y):eqZ x y = false:=by simp [eqZ,h]
theorem eqZ_nat {m n:Nat} (h:m = n):eqZ (m:Int) (n:Int) = true:=by rw [h]; exact Ir _
theorem Aiw {m n:Nat} (h:¬ m = n):eqZ (m:Int) (n:Int) = false:=eqZ_ne fun e => h (by exact_mod_cast e)
theorem Ajj {α:Type} (b:Bool) (x y:α):(if b = true then some x else some y) = some (if b = true then x else y):=by cases b <;> rfl
theorem Ajd (b:Bool):(if b = true then true else false) = b:=by cases b <;> rfl
end Go.Abs
