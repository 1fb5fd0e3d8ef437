/-
  The meta layer, part 33: the loops of part 31 with one hypothesis for a round; places in lists; bounds.
-/
import Derived.Test.YtbkefganebmlnaaGreatDoorN32
namespace Go.Abs
set_option linter.unusedVariables false
set_option linter.unusedSimpArgs false
theorem allS {σ A B C E:Type} {F:σ -> Option (Out σ B C)} (emb:Nat -> σ) (s:σ) (l:List E) (q:E -> Bool) (b:B) (c:C) (hs:s = emb 0) (hn:l.length <= 1099511627776)
  (ht:∀ i (h:i < l.length),F (emb i) = some (if q l[i] = true then .norm (emb (i + 1)) else .ret c)) (he:F (emb l.length) = some (.exit b)) :
  loopN (A:=A) big F s = some (if l.all q = true then .exit b else .ret c):=by
 subst hs
 exact Ahk emb l q b c hn (fun i h hq => by rw [ht i h,hq]; rfl) (fun i h hq => by rw [ht i h,hq]; rfl) he
theorem allIS {σ A B C:Type} {F:σ -> Option (Out σ B C)} (emb:Nat -> σ) (s:σ) (n:Nat) (q:Nat -> Bool) (b:B) (c:C) (hs:s = emb 0) (hn:n <= 1099511627776)
  (ht:∀ i,i < n -> F (emb i) = some (if q i = true then .norm (emb (i + 1)) else .ret c)) (he:F (emb n) = some (.exit b)) :
  loopN (A:=A) big F s = some (if (List.range n).all q = true then .exit b else .ret c):=by
 subst hs
 exact Aaf emb n q b c hn (fun i h hq => by rw [ht i h,hq]; rfl) (fun i h hq => by rw [ht i h,hq]; rfl) he
theorem findS {σ A B C E:Type} {F:σ -> Option (Out σ B C)} (emb:Nat -> σ) (s:σ) (l:List E) (q:E -> Bool) (b:B) (c:Nat -> C) (hs:s = emb 0) (hn:l.length <= 1099511627776)
  (ht:∀ i (h:i < l.length),F (emb i) = some (if q l[i] = true then .ret (c i) else .norm (emb (i + 1)))) (he:F (emb l.length) = some (.exit b)) :
  loopN (A:=A) big F s = some (match l.findIdx? q with | some i => .ret (c i) | none => .exit b):=by
 subst hs
 exact Af6 emb l q b c hn (fun i h hq => by rw [ht i h,hq]; rfl) (fun i h hq => by rw [ht i h,hq]; rfl) he
theorem pairS {σ A B C E:Type} {F:σ -> Option (Out σ B C)} (emb:Nat -> σ) (s:σ) (x y:List E) (hxy:x.length = y.length) (q:E -> E -> Bool) (b:B) (c:C) (hs:s = emb 0) (hn:x.length <= 1099511627776)
  (ht:∀ i (h:i < x.length) (h':i < y.length),F (emb i) = some (if q x[i] y[i] = true then .norm (emb (i + 1)) else .ret c)) (he:F (emb x.length) = some (.exit b)) :
  loopN (A:=A) big F s = some (if eqLB q x y = true then .exit b else .ret c):=by
 subst hs
 exact Ae7 emb x y hxy q b c hn (fun i h h' hq => by rw [ht i h h',hq]; rfl) (fun i h h' hq => by rw [ht i h h',hq]; rfl) he
def idxOf {E:Type} (q:E -> Bool) (l:List E):Int:=match l.findIdx? q with | some i => (i:Int) | none => -1
theorem Afi {E:Type} (q:E -> Bool) (l:List E):leZ 0 (idxOf q l) = l.any q:=by
 unfold idxOf
 cases h:l.findIdx? q with
 | none =>
  rw [List.findIdx?_eq_none_iff] at h
  have:l.any q = false:=by
   rw [List.any_eq_false]
   intro x hx
   simp [h x hx]
  rw [this]; rfl
 | some i =>
  rw [List.findIdx?_eq_some_iff_getElem] at h
  obtain ⟨h1,h2,_⟩:=h
  have:l.any q = true:=List.any_eq_true.2 ⟨l[i],List.getElem_mem h1,h2⟩
  rw [this]
  exact leZ_iff.2 (show (0:Int) <= ((i:Nat):Int) by omega)
theorem Ai6 {E:Type} (q:E -> Bool) (l:List E):-1 <= idxOf q l:=by
 unfold idxOf
 cases l.findIdx? q with
 | none => simp
 | some i =>
  show (-1:Int) <= ((i:Nat):Int)
  omega
theorem Ajc {E:Type} (q:E -> Bool) (l:List E):idxOf q l < l.length:=by
 unfold idxOf
 cases h:l.findIdx? q with
 | none => simp only; omega
 | some i =>
  rw [List.findIdx?_eq_some_iff_getElem] at h
  obtain ⟨h1,_⟩:=h
  show ((i:Nat):Int) < _
  omega
def inB (x lo hi:Int):Bool:=if leZ lo x = true then leZ x hi else false
theorem inB_iff {x lo hi:Int}:inB x lo hi = true ↔ lo <= x /\ x <= hi:=by
 unfold inB
 cases h:leZ lo x with
 | true =>
  have h':=leZ_iff.1 h
  simp only [if_true]
  rw [leZ_iff]
  exact ⟨fun k => ⟨h',k⟩,fun k => k.2⟩
 | false =>
  simp only [Bool.false_eq_true,if_false,false_iff,not_and]
  intro k
  exact absurd (leZ_iff.2 k) (by rw [h]; simp)
theorem Sq {l:List UInt8} {i:Nat} (h:i < l.length):byteAt l (i:Int) = some (l[i].toNat:Int):=by
 unfold byteAt
 have e:(0:Int) <= (i:Int):=by omega
 have t:((i:Nat):Int).toNat = i:=by omega
 rw [if_pos e,t,List.getElem?_eq_getElem h]
def onFirst (f:Bool):Nat -> Bool
 | 0 => f
 | _ + 1 => true
theorem Ae5 {n:Nat} {q:Nat -> Bool} {f:Bool} (h0:n = 0 -> f = true):(List.range n).all (fun i => q i && onFirst f i) = ((List.range n).all q && f):=by
 rw [Bool.eq_iff_iff,Bool.and_eq_true,List.all_eq_true,List.all_eq_true]
 constructor
 ·intro h
  refine ⟨fun i hi => ?_,?_⟩
  ·have:=h i hi
   rw [Bool.and_eq_true] at this
   exact this.1
  ·by_cases e:n = 0
   ·exact h0 e
   ·have:=h 0 (by simp; omega)
    rw [Bool.and_eq_true] at this
    exact this.2
 ·rintro ⟨h,hf⟩ i hi
  rw [Bool.and_eq_true]
  refine ⟨h i hi,?_⟩
  cases i with
  | zero => exact hf
  | succ j => rfl
theorem Aha (j:Nat) (h:j < 1099511627776):subZ .i64 ((j + 1:Nat):Int) 1 = (j:Int):=by
 rw [subZ64 (by omega) (by omega)]
 omega
theorem tf (b:Bool):b = false \/ b = true:=by cases b <;> simp
end Go.Abs
