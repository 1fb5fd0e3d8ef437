/-
  The meta layer, part 28: plain laws of the operations and of loops, for use with functions that are read ahead.
-/
import Derived.Test.YteggmejnpcfalaaGreatN27
namespace Go.Abs
set_option linter.unusedVariables false
set_option linter.unusedSimpArgs false
theorem Ab {α β:Type} (a:α) (f:α -> Option β):Option.bind (some a) f = f a:=rfl
theorem Ady {α β:Type} (f:α -> Option β):Option.bind none f = none:=rfl
theorem wrap64 {x:Int} (h1:-9223372036854775808 <= x) (h2:x <= 9223372036854775807):IntKind.i64.wrap x = x:=by
 simp only [IntKind.wrap,IntKind.signed,IntKind.bits]
 simp
 omega
theorem addZ64 {x y:Int} (h1:-9223372036854775808 <= x + y) (h2:x + y <= 9223372036854775807):addZ .i64 x y = x + y:=wrap64 h1 h2
theorem subZ64 {x y:Int} (h1:-9223372036854775808 <= x - y) (h2:x - y <= 9223372036854775807):subZ .i64 x y = x - y:=wrap64 h1 h2
theorem ltZ_iff {x y:Int}:(ltZ x y = true) ↔ x < y:=by simp [ltZ]
theorem leZ_iff {x y:Int}:(leZ x y = true) ↔ x <= y:=by simp [leZ]
theorem eqZ_iff {x y:Int}:(eqZ x y = true) ↔ x = y:=by simp [eqZ]
theorem Ak:notB true = false:=rfl
theorem Dj:notB false = true:=rfl
theorem Cm (x:Int):eqZ x x = true:=by simp [eqZ]
theorem lenI_eq {α:Type} (l:List α):lenI l = (l.length:Int):=rfl
theorem Ht {α:Type} (l:List α) (i:Nat):getI l (i:Int) = l[i]?:=by simp [getI]
theorem getI_lt {α:Type} {l:List α} {i:Nat} (h:i < l.length):getI l (i:Int) = some l[i]:=by rw [Ht,List.getElem?_eq_getElem h]
theorem Ab4 {α:Type} (l:List α) (i:Nat) (f:α -> α):setI l (i:Int) f = l.modify i f:=by simp [setI]
theorem Yt {α:Type} {n:Nat} {z:α} (h:n <= room):zerosI (n:Int) z = some (List.replicate n z):=by
 unfold zerosI
 rw [if_pos ⟨by omega,by exact_mod_cast h⟩]
 simp
theorem addI_ok {α:Type} {x y:List α} (h:x.length + y.length <= room):addI x y = some (x ++ y):=by
 unfold addI; rw [if_pos h]
theorem room_eq:room = 4294967296:=by decide
theorem Cl {σ A B C:Type} {F:σ -> Option (Out σ B C)} (n:Nat) (I:Nat -> σ -> Prop) (R:Out A B C -> Prop)
  (h:∀ i s,i <= n -> I i s -> ∃ o,F s = some o /\ (match o with | .norm s' => i < n /\ I (i + 1) s' | .exit b => R (.exit b) | .ret c => R (.ret c))) {s:σ} (hs:I 0 s) (hn:n < big) :
  ∃ o,loopN (A:=A) big F s = some o /\ R o:=by
 have key:∀ (k N:Nat) (i:Nat) (s:σ),n - i = k -> i <= n -> I i s -> k < N -> ∃ o,loopN (A:=A) N F s = some o /\ R o:=by
  intro k
  induction k with
  | zero =>
   intro N i s hk hi hI hN
   obtain ⟨N,rfl⟩:∃ M,N = M + 1:=⟨N - 1,by omega⟩
   obtain ⟨o,ho,hm⟩:=h i s hi hI
   cases o with
   | norm s' => omega
   | exit b => exact ⟨.exit b,by simp only [loopN,ho]; rfl,hm⟩
   | ret c => exact ⟨.ret c,by simp only [loopN,ho]; rfl,hm⟩
  | succ k ih =>
   intro N i s hk hi hI hN
   obtain ⟨N,rfl⟩:∃ M,N = M + 1:=⟨N - 1,by omega⟩
   obtain ⟨o,ho,hm⟩:=h i s hi hI
   cases o with
   | norm s' =>
    obtain ⟨o,k1,k2⟩:=ih N (i + 1) s' (by omega) hm.1 hm.2 (by omega)
    exact ⟨o,by simp only [loopN,ho]; exact k1,k2⟩
   | exit b => exact ⟨.exit b,by simp only [loopN,ho]; rfl,hm⟩
   | ret c => exact ⟨.ret c,by simp only [loopN,ho]; rfl,hm⟩
 exact key n big 0 s (by omega) (Nat.zero_le _) hs hn
theorem big_eq:big = 18446744073709551616:=by decide
end Go.Abs
