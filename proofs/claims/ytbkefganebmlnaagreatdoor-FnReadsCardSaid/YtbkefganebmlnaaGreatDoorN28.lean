/-
  The meta layer, part 28: plain laws of the operations and of loops, for use with functions that are read ahead.
-/
import Derived.Test.YtbkefganebmlnaaGreatDoorN27
namespace Go.Abs
set_option linter.unusedVariables false
set_option linter.unusedSimpArgs false
theorem Ajf {α β:Type} {c:Prop} [Decidable c] (x y:Option α) (f:α -> Option β):Option.bind (if c then x else y) f = if c then Option.bind x f else Option.bind y f:=by split <;> rfl
theorem Aih {α β γ:Type} (x:Option α) (f:α -> Option β) (g:β -> Option γ):Option.bind (Option.bind x f) g = Option.bind x fun y => Option.bind (f y) g:=by cases x <;> rfl
theorem Ad {α β:Type} (a:α) (f:α -> Option β):Option.bind (some a) f = f a:=rfl
theorem Ain {α β:Type} (f:α -> Option β):Option.bind none f = none:=rfl
theorem wrap64 {x:Int} (h1:-9223372036854775808 <= x) (h2:x <= 9223372036854775807):IntKind.i64.wrap x = x:=by
 simp only [IntKind.wrap,IntKind.signed,IntKind.bits]
 simp
 omega
theorem addZ64 {x y:Int} (h1:-9223372036854775808 <= x + y) (h2:x + y <= 9223372036854775807):addZ .i64 x y = x + y:=wrap64 h1 h2
theorem subZ64 {x y:Int} (h1:-9223372036854775808 <= x - y) (h2:x - y <= 9223372036854775807):subZ .i64 x y = x - y:=wrap64 h1 h2
theorem Af3:maxLen = 9223372036854775807:=by decide
theorem ltZ_iff {x y:Int}:(ltZ x y = true) ↔ x < y:=by simp [ltZ]
theorem leZ_iff {x y:Int}:(leZ x y = true) ↔ x <= y:=by simp [leZ]
theorem eqZ_iff {x y:Int}:(eqZ x y = true) ↔ x = y:=by simp [eqZ]
theorem Ajh {b:Bool}:(notB b = true) ↔ ¬ b = true:=by cases b <;> simp [notB]
theorem A9:notB true = false:=rfl
theorem X7:notB false = true:=rfl
theorem Ir (x:Int):eqZ x x = true:=by simp [eqZ]
theorem Yq (x:Bool):eqB x x = true:=by simp [eqB]
theorem lenI_eq {α:Type} (l:List α):lenI l = (l.length:Int):=rfl
theorem Nu {α:Type} (l:List α) (i:Nat):getI l (i:Int) = l[i]?:=by simp [getI]
theorem getI_lt {α:Type} {l:List α} {i:Nat} (h:i < l.length):getI l (i:Int) = some l[i]:=by rw [Nu,List.getElem?_eq_getElem h]
theorem Ah4 {α:Type} (l:List α) (i:Nat) (f:α -> α):setI l (i:Int) f = l.modify i f:=by simp [setI]
theorem Adq {α:Type} {n:Nat} {z:α} (h:n <= room):zerosI (n:Int) z = some (List.replicate n z):=by
 unfold zerosI
 rw [if_pos ⟨by omega,by exact_mod_cast h⟩]
 simp
theorem addI_ok {α:Type} {x y:List α} (h:x.length + y.length <= room):addI x y = some (x ++ y):=by
 unfold addI; rw [if_pos h]
theorem room_eq:room = 4294967296:=by decide
theorem Aai {α:Type} (x:List α) (z:α) {i:Nat} (h:i < x.length):setI (x.take i ++ List.replicate (x.length - i) z) (i:Int) (fun _ => x[i]) = x.take (i + 1) ++ List.replicate (x.length - (i + 1)) z:=by
 rw [Ah4]
 apply List.ext_getElem?
 intro k
 simp only [List.getElem?_modify,List.getElem?_append,List.length_take,List.getElem?_take,List.getElem?_replicate]
 by_cases hk:i = k
 ·subst hk
  simp [h,Nat.min_eq_left (Nat.le_of_lt h)]
  rw [if_pos (by omega),if_pos (by omega)]
 ·rcases Nat.lt_or_ge k i with hlt | hge
  ·simp [hk,Nat.min_eq_left (Nat.le_of_lt h),hlt,show k < i + 1 by omega,Nat.min_eq_left (show i + 1 <= x.length by omega)]
  ·simp [hk,Nat.min_eq_left (Nat.le_of_lt h),show ¬ k < i by omega,show ¬ k < i + 1 by omega,Nat.min_eq_left (show i + 1 <= x.length by omega)]
   congr 1
   apply propext
   omega
theorem Pm {α:Type} (x:List α) (z:α) {i:Nat} (h:i <= x.length):(x.take i ++ List.replicate (x.length - i) z).length = x.length:=by simp; omega
theorem Ae4 {σ A B C:Type} {F:σ -> Option (Out σ B C)} (I:σ -> Prop) (μ:σ -> Nat) (R:Out A B C -> Prop)
  (h:∀ s,I s -> ∃ o,F s = some o /\ (match o with | .norm s' => I s' /\ μ s' < μ s | .exit b => R (.exit b) | .ret c => R (.ret c))) :
  ∀ (N:Nat) (s:σ),I s -> μ s < N -> ∃ o,loopN (A:=A) N F s = some o /\ R o
 | 0,s,_,hN => absurd hN (Nat.not_lt_zero _)
 | N + 1,s,hs,hN => by
  obtain ⟨o,ho,hk⟩:=h s hs
  cases o with
  | norm s' =>
   obtain ⟨h1,h2⟩:=hk
   obtain ⟨o,k1,k2⟩:=Ae4 I μ R h N s' h1 (by omega)
   exact ⟨o,by simp only [loopN,ho]; exact k1,k2⟩
  | exit b => exact ⟨.exit b,by simp only [loopN,ho]; rfl,hk⟩
  | ret c => exact ⟨.ret c,by simp only [loopN,ho]; rfl,hk⟩
theorem A5 {σ A B C:Type} {F:σ -> Option (Out σ B C)} (n:Nat) (I:Nat -> σ -> Prop) (R:Out A B C -> Prop)
  (h:∀ i s,i <= n -> I i s -> ∃ o,F s = some o /\ (match o with | .norm s' => i < n /\ I (i + 1) s' | .exit b => R (.exit b) | .ret c => R (.ret c))) {s:σ} (hs:I 0 s) (hn:n < big) :
  ∃ o,loopN (A:=A) big F s = some o /\ R o:=by
 have key:∀ (k N:Nat) (i:Nat) (s:σ),n - i = k -> i <= n -> I i s -> k < N -> ∃ o,loopN (A:=A) N F s = some o /\ R o:=by
  intro k
  induction k with
  | zero =>
   intro N i s hk hi hI hN
   obtain ⟨N,rfl⟩:∃ M,N = M + 1:=⟨N - 1,by omega⟩
   obtain ⟨o,ho,hm⟩:=h i s hi hI
   cases o with
   | norm s' => omega
   | exit b => exact ⟨.exit b,by simp only [loopN,ho]; rfl,hm⟩
   | ret c => exact ⟨.ret c,by simp only [loopN,ho]; rfl,hm⟩
  | succ k ih =>
   intro N i s hk hi hI hN
   obtain ⟨N,rfl⟩:∃ M,N = M + 1:=⟨N - 1,by omega⟩
   obtain ⟨o,ho,hm⟩:=h i s hi hI
   cases o with
   | norm s' =>
    obtain ⟨o,k1,k2⟩:=ih N (i + 1) s' (by omega) hm.1 hm.2 (by omega)
    exact ⟨o,by simp only [loopN,ho]; exact k1,k2⟩
   | exit b => exact ⟨.exit b,by simp only [loopN,ho]; rfl,hm⟩
   | ret c => exact ⟨.ret c,by simp only [loopN,ho]; rfl,hm⟩
 exact key n big 0 s (by omega) (Nat.zero_le _) hs hn
theorem Acn {σ A B C:Type} {F G:σ -> Option (Out σ B C)} (I:σ -> Prop) (h:∀ s,I s -> F s = G s /\ ∀ s',F s = some (.norm s') -> I s'):∀ (N:Nat) {s:σ},I s -> loopN (A:=A) N F s = loopN N G s
 | 0,s,_ => rfl
 | N + 1,s,hs => by
  obtain ⟨h1,h2⟩:=h s hs
  simp only [loopN,<- h1]
  cases hF:F s with
  | none => rfl
  | some o =>
   cases o with
   | norm s' => exact Acn I h N (h2 s' hF)
   | exit b => rfl
   | ret c => rfl
theorem big_eq:big = 18446744073709551616:=by decide
end Go.Abs
