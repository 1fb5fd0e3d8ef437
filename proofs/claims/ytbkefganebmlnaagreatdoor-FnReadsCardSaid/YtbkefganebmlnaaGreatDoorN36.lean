/-
  The meta layer, part 36: two loops side by side; one loop, whatever the type of what comes behind.
-/
import Derived.Test.YtbkefganebmlnaaGreatDoorN35
namespace Go.Abs
set_option linter.unusedVariables false
set_option linter.unusedSimpArgs false
theorem Aeg {σ τ B B' C C' α:Type} {F:σ -> Option (Out σ B C)} {G:τ -> Option (Out τ B' C')} (eF:Nat -> α -> σ) (eG:Nat -> α -> τ) (n:Nat) (I:Nat -> α -> Prop) (R:B -> B' -> Prop) (S:C -> C' -> Prop) (hn:n <= 1099511627776)
  (h:∀ i a,i <= n -> I i a -> (∃ a',i < n /\ F (eF i a) = some (.norm (eF (i + 1) a')) /\ G (eG i a) = some (.norm (eG (i + 1) a')) /\ I (i + 1) a') \/ (∃ b b',F (eF i a) = some (.exit b) /\ G (eG i a) = some (.exit b') /\ R b b') \/
   ∃ c c',F (eF i a) = some (.ret c) /\ G (eG i a) = some (.ret c') /\ S c c') {a:α} {s:σ} {t:τ} (hs:s = eF 0 a) (ht:t = eG 0 a) (h0:I 0 a) :
  (∃ b b',(∀ A:Type,loopN (A:=A) big F s = some (.exit b)) /\ (∀ A:Type,loopN (A:=A) big G t = some (.exit b')) /\ R b b') \/
   ∃ c c',(∀ A:Type,loopN (A:=A) big F s = some (.ret c)) /\ (∀ A:Type,loopN (A:=A) big G t = some (.ret c')) /\ S c c':=by
 subst hs ht
 have key:∀ (k i N:Nat) (a:α),i + k = n -> k < N -> I i a ->
   (∃ b b',(∀ A:Type,loopN (A:=A) N F (eF i a) = some (.exit b)) /\ (∀ A:Type,loopN (A:=A) N G (eG i a) = some (.exit b')) /\ R b b') \/
   ∃ c c',(∀ A:Type,loopN (A:=A) N F (eF i a) = some (.ret c)) /\ (∀ A:Type,loopN (A:=A) N G (eG i a) = some (.ret c')) /\ S c c':=by
  intro k
  induction k with
  | zero =>
   intro i N a hk hN hI
   obtain ⟨N,rfl⟩:∃ M,N = M + 1:=⟨N - 1,by omega⟩
   rcases h i a (by omega) hI with ⟨a',hlt,-⟩ | ⟨b,b',e1,e2,r⟩ | ⟨c,c',e1,e2,r⟩
   ·omega
   ·exact .inl ⟨b,b',fun A => by simp only [loopN,e1]; rfl,fun A => by simp only [loopN,e2]; rfl,r⟩
   ·exact .inr ⟨c,c',fun A => by simp only [loopN,e1]; rfl,fun A => by simp only [loopN,e2]; rfl,r⟩
  | succ k ih =>
   intro i N a hk hN hI
   obtain ⟨N,rfl⟩:∃ M,N = M + 1:=⟨N - 1,by omega⟩
   rcases h i a (by omega) hI with ⟨a',hlt,e1,e2,hI'⟩ | ⟨b,b',e1,e2,r⟩ | ⟨c,c',e1,e2,r⟩
   ·rcases ih (i + 1) N a' (by omega) (by omega) hI' with ⟨b,b',l1,l2,r⟩ | ⟨c,c',l1,l2,r⟩
    ·exact .inl ⟨b,b',fun A => by simp only [loopN,e1]; exact l1 A,fun A => by simp only [loopN,e2]; exact l2 A,r⟩
    ·exact .inr ⟨c,c',fun A => by simp only [loopN,e1]; exact l1 A,fun A => by simp only [loopN,e2]; exact l2 A,r⟩
   ·exact .inl ⟨b,b',fun A => by simp only [loopN,e1]; rfl,fun A => by simp only [loopN,e2]; rfl,r⟩
   ·exact .inr ⟨c,c',fun A => by simp only [loopN,e1]; rfl,fun A => by simp only [loopN,e2]; rfl,r⟩
 exact key n 0 big a (by omega) (lt_bigN hn) h0
theorem Ajb {σ B C α:Type} {F:σ -> Option (Out σ B C)} (eF:Nat -> α -> σ) (n:Nat) (I:Nat -> α -> Prop) (R:B -> Prop) (S:C -> Prop) (hn:n <= 1099511627776)
  (h:∀ i a,i <= n -> I i a -> (∃ a',i < n /\ F (eF i a) = some (.norm (eF (i + 1) a')) /\ I (i + 1) a') \/ (∃ b,F (eF i a) = some (.exit b) /\ R b) \/ ∃ c,F (eF i a) = some (.ret c) /\ S c) {a:α} {s:σ} (hs:s = eF 0 a) (h0:I 0 a) :
  (∃ b,(∀ A:Type,loopN (A:=A) big F s = some (.exit b)) /\ R b) \/ ∃ c,(∀ A:Type,loopN (A:=A) big F s = some (.ret c)) /\ S c:=by
 rcases Aeg (F:=F) (G:=F) eF eF n I (fun b _ => R b) (fun c _ => S c) hn (fun i a hi hI => by
  rcases h i a hi hI with ⟨a',h1,h2,h3⟩ | ⟨b,h1,h2⟩ | ⟨c,h1,h2⟩
  ·exact .inl ⟨a',h1,h2,h2,h3⟩
  ·exact .inr (.inl ⟨b,b,h1,h1,h2⟩)
  ·exact .inr (.inr ⟨c,c,h1,h1,h2⟩)) hs hs h0 with ⟨b,_,l,_,r⟩ | ⟨c,_,l,_,r⟩
 ·exact .inl ⟨b,l,r⟩
 ·exact .inr ⟨c,l,r⟩
def fin {σ B C:Type}:B ⊕ C -> Out σ B C | .inl b => .exit b | .inr c => .ret c
theorem Ait {σ τ B B' C C' α:Type} {F:σ -> Option (Out σ B C)} {G:τ -> Option (Out τ B' C')} (eF:Nat -> α -> σ) (eG:Nat -> α -> τ) (n:Nat) (I:Nat -> α -> Prop) (R:B ⊕ C -> B' ⊕ C' -> Prop) (hn:n <= 1099511627776)
  (h:∀ i a,i <= n -> I i a -> (∃ a',i < n /\ F (eF i a) = some (.norm (eF (i + 1) a')) /\ G (eG i a) = some (.norm (eG (i + 1) a')) /\ I (i + 1) a') \/ ∃ o o',F (eF i a) = some (fin o) /\ G (eG i a) = some (fin o') /\ R o o') {a:α} {s:σ} {t:τ} (hs:s = eF 0 a) (ht:t = eG 0 a) (h0:I 0 a) :
  ∃ o o',(∀ A:Type,loopN (A:=A) big F s = some (fin o)) /\ (∀ A:Type,loopN (A:=A) big G t = some (fin o')) /\ R o o':=by
 subst hs ht
 have one:∀ {ρ D E:Type} {H:ρ -> Option (Out ρ D E)} {r:ρ} {o:D ⊕ E} (N:Nat) (A:Type),H r = some (fin o) -> loopN (A:=A) (N + 1) H r = some (fin o):=fun {ρ D E H r o} N A e => by
  cases o <;> (simp only [loopN,e]; rfl)
 have key:∀ (k i N:Nat) (a:α),i + k = n -> k < N -> I i a -> ∃ o o',(∀ A:Type,loopN (A:=A) N F (eF i a) = some (fin o)) /\ (∀ A:Type,loopN (A:=A) N G (eG i a) = some (fin o')) /\ R o o':=by
  intro k
  induction k with
  | zero =>
   intro i N a hk hN hI
   obtain ⟨N,rfl⟩:∃ M,N = M + 1:=⟨N - 1,by omega⟩
   rcases h i a (by omega) hI with ⟨a',hlt,-⟩ | ⟨o,o',e1,e2,r⟩
   ·omega
   ·exact ⟨o,o',fun A => one N A e1,fun A => one N A e2,r⟩
  | succ k ih =>
   intro i N a hk hN hI
   obtain ⟨N,rfl⟩:∃ M,N = M + 1:=⟨N - 1,by omega⟩
   rcases h i a (by omega) hI with ⟨a',hlt,e1,e2,hI'⟩ | ⟨o,o',e1,e2,r⟩
   ·obtain ⟨o,o',l1,l2,r⟩:=ih (i + 1) N a' (by omega) (by omega) hI'
    exact ⟨o,o',fun A => by simp only [loopN,e1]; exact l1 A,fun A => by simp only [loopN,e2]; exact l2 A,r⟩
   ·exact ⟨o,o',fun A => one N A e1,fun A => one N A e2,r⟩
 exact key n 0 big a (by omega) (lt_bigN hn) h0
end Go.Abs
