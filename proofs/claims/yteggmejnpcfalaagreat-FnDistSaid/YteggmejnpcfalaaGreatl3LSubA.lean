/-
  Plain laws: numbers in a row, lists that hold a number, sets, domains (several small texts in one). Condition: no list is longer than 2 to the 40.
-/
import Derived.Test.YteggmejnpcfalaaGreatl3LPairsM
import Derived.Test.YteggmejnpcfalaaGreatl3LRunM
namespace Go.Proofs.YteggmejnpcfalaaGreat
open Go.Abs
set_option linter.unusedVariables false
set_option linter.unusedSimpArgs false
/-! sums -/
def sumI (f:Nat -> Int):Nat -> Int
 | 0 => 0
 | n + 1 => sumI f n + f n
theorem sumI_le {f g:Nat -> Int}:∀ {n:Nat},(∀ i,i < n -> f i <= g i) -> sumI f n <= sumI g n
 | 0,_ => Int.le_refl _
 | n + 1,h => by
  have h1:=sumI_le (n:=n) fun i hi => h i (by omega)
  have h2:=h n (by omega)
  simp only [sumI]
  omega
theorem sumI_eq {f g:Nat -> Int} {n:Nat} (h:∀ i,i < n -> f i = g i):sumI f n = sumI g n:=
 Int.le_antisymm (sumI_le fun i hi => Int.le_of_eq (h i hi)) (sumI_le fun i hi => Int.le_of_eq (h i hi).symm)
theorem sumI_in {f:Nat -> Int} {c:Int}:∀ {n:Nat},(∀ i,i < n -> 0 <= f i /\ f i <= c) -> 0 <= sumI f n /\ sumI f n <= n * c
 | 0,_ => by simp [sumI]
 | n + 1,h => by
  obtain ⟨h1,h2⟩:=sumI_in (n:=n) fun i hi => h i (by omega)
  obtain ⟨h3,h4⟩:=h n (by omega)
  simp only [sumI]
  have e:((n + 1:Nat):Int) * c = n * c + c:=by rw [Int.natCast_add,Int.add_mul]; simp
  rw [e]
  omega
theorem Yk (f g:Nat -> Int):∀ n,sumI (fun i => f i + g i) n = sumI f n + sumI g n
 | 0 => rfl
 | n + 1 => by
  simp only [sumI]
  rw [Yk f g n]
  omega
theorem Vm:∀ n,sumI (fun _ => 0) n = 0
 | 0 => rfl
 | n + 1 => by simp only [sumI]; rw [Vm n]; rfl
theorem Vs (f:Nat -> Nat -> Int) (m:Nat):∀ n,sumI (fun t => sumI (f t) m) n = sumI (fun i => sumI (fun t => f t i) n) m
 | 0 => by
  simp only [sumI]
  exact (Vm m).symm
 | n + 1 => by
  simp only [sumI]
  rw [Vs f m n,<- Yk]
theorem Xx {σ B C:Type} {F:σ -> Option (Out σ B C)} (emb:Nat -> Int -> σ) (n:Nat) (f:Nat -> Int) (b:Int -> B) (hn:n <= 1000) (hb:∀ i,i < n -> 0 <= f i /\ f i <= 1000)
  (hs:∀ i s,i < n -> 0 <= s -> s <= 1000000 -> F (emb i s) = some (.norm (emb (i + 1) (s + f i)))) (he:∀ s,F (emb n s) = some (.exit (b s))) {s0:σ} (h0:s0 = emb 0 0) (A:Type) :
  loopN (A:=A) big F s0 = some (.exit (b (sumI f n))):=by
 subst h0
 have key:=B6 (A:=A) (F:=F) emb n (fun i s => s = sumI f i) (fun i s => s + f i) b (by omega)
  (fun i s hi hI => by
   obtain ⟨h1,h2⟩:=sumI_in (f:=f) (c:=1000) (n:=i) fun j hj => hb j (by omega)
   have h3:((i:Int)) * 1000 <= 1000000:=by omega
   refine ⟨hs i s hi (by rw [hI]; exact h1) (by rw [hI]; omega),?_⟩
   rw [hI]
   rfl)
  (fun s _ => he s) (a:=0) rfl
 rw [key.2] at key
 exact key.1
/-! overlap, work -/
def ovI (s d x y:Int):Int:=max (min (s + d) y - max s x) 0
theorem ovI_in {s d x y:Int} (hd:0 <= d):0 <= ovI s d x y /\ ovI s d x y <= d:=by
 unfold ovI
 omega
def leastS (w:Int -> Int) (s:Bool × Int) (k:Int):Bool × Int:=if (notB s.1 || ltZ (w k) s.2) = true then (true,w k) else s
def leastI (w:Int -> Int) (l:List Int):Int:=(l.foldl (leastS w) (false,0)).2
def wrk1 (p:Aa) (b:Ae) (i j:Nat) (x y k:Int):Int:=match p.2.1[i]? with
 | some a => (match a.2.2.1[k.toNat]? with | some m => min (ovI (mnB b i) m.1 x y) (ovI (mxB b i) m.1 x y) * atV false (j:Int) m | none => 0)
 | none => 0
def workM (p:Aa) (b:Ae) (i j:Nat) (x y:Int):Int:=leastI (wrk1 p b i j x y) (moB b i)
theorem mul_in {a c:Int} (h1:0 <= a) (h2:a <= 12) (h3:0 <= c) (h4:c <= 20):0 <= a * c /\ a * c <= 240:=by
 obtain ⟨un,rfl⟩:∃ un:Nat,a = (un:Int):=⟨a.toNat,by omega⟩
 obtain ⟨mn,rfl⟩:∃ mn:Nat,c = (mn:Int):=⟨c.toNat,by omega⟩
 have:=Nat.mul_le_mul (show un <= 12 by omega) (show mn <= 20 by omega)
 have e:((un:Int)) * (mn:Int) = ((un * mn:Nat):Int):=by simp
 rw [e]
 omega
theorem wrk1_at {p:Aa} (hp:Af 1099511627776 p) (hpj:projB p = true) (b:Ae) {i j n:Nat} (hi:i < p.2.1.length) (hj:j < p.2.2.2.1.length) (hn:n < p.2.1[i].2.2.1.length) (x y:Int) :
  wrk1 p b i j x y (n:Int) = min (ovI (mnB b i) p.2.1[i].2.2.1[n].1 x y) (ovI (mxB b i) p.2.1[i].2.2.1[n].1 x y) * atV false (j:Int) p.2.1[i].2.2.1[n] /\ 0 <= wrk1 p b i j x y (n:Int) /\ wrk1 p b i j x y (n:Int) <= 240:=by
 have e:wrk1 p b i j x y (n:Int) = min (ovI (mnB b i) p.2.1[i].2.2.1[n].1 x y) (ovI (mxB b i) p.2.1[i].2.2.1[n].1 x y) * atV false (j:Int) p.2.1[i].2.2.1[n]:=by
  unfold wrk1
  rw [List.getElem?_eq_getElem hi]
  simp only [Int.toNat_natCast]
  rw [List.getElem?_eq_getElem hn]
 obtain ⟨d1,d2,-⟩:=Kw hpj hi _ (List.getElem_mem hn)
 obtain ⟨-,-,u1,u2⟩:=Of hp hpj hi hj _ (List.getElem_mem hn)
 obtain ⟨o1,o2⟩:=ovI_in (s:=mnB b i) (x:=x) (y:=y) (show 0 <= p.2.1[i].2.2.1[n].1 by omega)
 obtain ⟨o3,o4⟩:=ovI_in (s:=mxB b i) (x:=x) (y:=y) (show 0 <= p.2.1[i].2.2.1[n].1 by omega)
 rw [e]
 exact ⟨rfl,mul_in (by omega) (by omega) u1 u2⟩
/-- the least usage at a time in every case -/
def cuseM (p:Aa) (b:Ae) (j:Nat) (t:Int) (i:Nat):Int:=if mxB b i <= t /\ t < mnB b i + durM p b i then needM p b j i else 0
def consM (p:Aa) (b:Ae) (k i:Nat):Int:=match p.2.1[i]? with | some a => lstV (atV true (k:Int)) a (moB b i) | none => 0
theorem Acp {p:Aa} (hp:Af 1099511627776 p) (h:projB p = true) {i k:Nat} (hi:i < p.2.1.length) (hk:k < p.2.2.2.2.1.length):∀ m ∈ p.2.1[i].2.2.1,0 <= atV true (k:Int) m /\ atV true (k:Int) m <= 20:=fun m hm => by
 obtain ⟨-,-,-,h1,-,h2⟩:=Kw h hi m hm
 have hk':k < m.2.2.1.length:=by omega
 have e:atV true (k:Int) m = m.2.2.1[k]:=by
  unfold atV
  simp only [if_true,getI_lt hk',Option.getD_some]
 rw [e]
 exact h2 _ (List.getElem_mem hk')
def capW (l:List D_Step) (x y:Int):Int:=match Cu (l,x,y,()) () with | some v => v.1 | none => 0
open Go.Abs
set_option linter.unusedVariables false
set_option linter.unusedSimpArgs false
/-- one domain within another, that is not empty -/
structure SubD (p:Aa) (b' b:Ae):Prop where
 mn:∀ i,i < p.2.1.length -> mnB b i <= mnB b' i
 mx:∀ i,i < p.2.1.length -> mxB b' i <= mxB b i
 le:∀ i,i < p.2.1.length -> mnB b' i <= mxB b' i
 mo:∀ i,i < p.2.1.length -> ∀ k,k ∈ moB b' i -> k ∈ moB b i
 ix:∀ i (hi:i < p.2.1.length),∀ k ∈ moB b' i,∃ n:Nat,k = (n:Int) /\ n < p.2.1[i].2.2.1.length
 ne:∀ i,i < p.2.1.length -> moB b' i ≠ []
theorem Ve (a:Ad) (ms:List Int):∀ (k i:Nat) (out:List D_Mode) {m:D_Mode},m ∈ foldN (choF a ms) k i out -> m ∈ out \/ ∃ (j:Nat) (hj:j < a.2.2.1.length),hasB ms (j:Int) = true /\ m = a.2.2.1[j]
 | 0,_,_,m,h => .inl h
 | k + 1,i,out,m,h => by
  rcases Ve a ms k (i + 1) _ h with h | h
  ·unfold choF at h
   cases hx:a.2.2.1[i]? with
   | none => rw [hx] at h; exact .inl h
   | some x =>
    rw [hx] at h
    simp only at h
    split at h
    ·rename_i hh
     rcases List.mem_append.1 h with h | h
     ·exact .inl h
     ·rw [List.mem_singleton.1 h]
      obtain ⟨hj,e⟩:=List.getElem?_eq_some_iff.1 hx
      exact .inr ⟨i,hj,hh,e.symm⟩
    ·exact .inl h
  ·exact .inr h
theorem lstV_at (val:D_Mode -> Int) {a:Ad} {ms:List Int} (h:∃ j:Nat,j < a.2.2.1.length /\ hasB ms (j:Int) = true):∃ (j:Nat) (hj:j < a.2.2.1.length),hasB ms (j:Int) = true /\ lstV val a ms = val a.2.2.1[j]:=by
 obtain ⟨j0,hj0,h0⟩:=h
 unfold lstV
 rcases (lst_all val (choL a ms)).2 with ⟨e,-⟩ | ⟨m,hm,e⟩
 ·have:=Ub hj0 h0
  rw [e] at this
  simp at this
 ·rcases Ve a ms _ 0 [] hm with h | ⟨j,hj,h1,rfl⟩
  ·simp at h
  ·exact ⟨j,hj,h1,e⟩
/-! the six kinds of rules, each with what refutes it -/
def linkRef (p:Aa) (b:Ae) (k:Nat):Prop:=∃ (hk:k < p.2.2.1.length) (f t:Nat),p.2.2.1[k].1 = (f:Int) /\ p.2.2.1[k].2.1 = (t:Int) /\ mxB b t < mnB b f + (if p.2.2.1[k].2.2.1 = true then durM p b f else 0) + p.2.2.1[k].2.2.2.1
def endRef (p:Aa) (b:Ae) (i:Nat):Prop:=p.1 < mnB b i + durM p b i
def capJ (p:Aa) (j:Nat) (t:Int):Int:=match p.2.2.2.1[j]? with | some r => capV r.1 t | none => 0
def timeRef (p:Aa) (b:Ae) (j:Nat) (t:Int):Prop:=capJ p j t < sumI (cuseM p b j t) p.2.1.length
def capI (p:Aa) (j:Nat) (x y:Int):Int:=match p.2.2.2.1[j]? with | some r => capW r.1 x y | none => 0
def workRef (p:Aa) (b:Ae) (j:Nat) (x y:Int):Prop:=capI p j x y < sumI (fun i => workM p b i j x y) p.2.1.length
def pairRef (p:Aa) (b:Ae) (j c d:Nat):Prop:=bothM p b j c d = true /\ canM p b j c d = false /\ canM p b j d c = false
def stockJ (p:Aa) (k:Nat):Int:=match p.2.2.2.2.1[k]? with | some n => n | none => 0
def Ac8 (p:Aa) (b:Ae) (k:Nat):Prop:=stockJ p k < sumI (consM p b k) p.2.1.length
/-- a rule of a project, and when a domain refutes it -/
def IsRule (p:Aa) (r:D_Rule) (Q:Ae -> Prop):Prop:=
 (∃ k:Nat,k < p.2.2.1.length /\ r = (1,(k:Int),0,0,()) /\ Q = fun b => linkRef p b k) \/
 (∃ i:Nat,i < p.2.1.length /\ r = (2,(i:Int),0,0,()) /\ Q = fun b => endRef p b i) \/
 (∃ (j t:Nat),j < p.2.2.2.1.length /\ t <= 60 /\ r = (3,(j:Int),(t:Int),0,()) /\ Q = fun b => timeRef p b j (t:Int)) \/
 (∃ (j x n:Nat),j < p.2.2.2.1.length /\ 0 < n /\ x + n <= 60 /\ r = (4,(j:Int),(x:Int),((x + n:Nat):Int),()) /\ Q = fun b => workRef p b j (x:Int) ((x + n:Nat):Int)) \/
 (∃ (j c d:Nat) (hj:j < p.2.2.2.1.length),0 < p.2.2.2.1[j].2.1.length /\ c < d /\ d < p.2.1.length /\ r = (5,(j:Int),(c:Int),(d:Int),()) /\ Q = fun b => pairRef p b j c d) \/
 (∃ k:Nat,k < p.2.2.2.2.1.length /\ r = (6,(k:Int),0,0,()) /\ Q = fun b => Ac8 p b k)
open Go.Abs
set_option linter.unusedVariables false
set_option linter.unusedSimpArgs false
def singD (s:Ac):Ae:=(s.1,(s.1,(s.2.1.map fun k => [k],())))
theorem Aan {n:Nat} {s:Ac} (h:SchL n s):BoxL n (singD s) /\ ∀ i,i < n -> mnB (singD s) i = tsS s i /\ mxB (singD s) i = tsS s i /\ moB (singD s) i = [ksS s i]:=by
 refine ⟨⟨h.s1,h.s1,by simpa [singD] using h.s2⟩,fun i hi => ⟨rfl,rfl,?_⟩⟩
 obtain ⟨-,g⟩:=h.at hi
 unfold moB singD
 simp only [List.getElem?_map,g,Option.map_some,Option.getD_some]
/-- what a schedule of the right form has at a place -/
theorem sch_at {p:Aa} {s:Ac} (hp:Af 1099511627776 p) (hf:formB p s = true) {i:Nat} (hi:i < p.2.1.length) :
  ∃ (m:Nat) (hm:m < p.2.1[i].2.2.1.length),ksS s i = (m:Int) /\ endV p s (i:Int) = tsS s i + p.2.1[i].2.2.1[m].1 /\ 0 <= tsS s i /\ tsS s i <= 60 /\ 1 <= p.2.1[i].2.2.1[m].1 /\ p.2.1[i].2.2.1[m].1 <= 12 /\
   (∀ j:Nat,j < p.2.2.2.1.length -> useOf p s (j:Int) (i:Int) = atV false (j:Int) p.2.1[i].2.2.1[m]) /\ (∀ k:Nat,k < p.2.2.2.2.1.length -> consOf p s (k:Int) (i:Int) = atV true (k:Int) p.2.1[i].2.2.1[m]):=by
 have hs:=Ff hf
 obtain ⟨t,m,md,g1,g2,g3,hm,t0,t6,-,-⟩:=form_at hp hf hi
 obtain ⟨k1,k2⟩:=hs.get hi
 rw [k1] at g1
 rw [k2] at g2
 have et:t = tsS s i:=(Option.some.inj g1).symm
 have em:ksS s i = (m:Int):=Option.some.inj g2
 subst et
 have hml:m < p.2.1[i].2.2.1.length:=by
  rw [Ht] at g3
  exact (List.getElem?_eq_some_iff.1 g3).1
 have hmd:md = p.2.1[i].2.2.1[m]:=by
  rw [getI_lt hml] at g3
  exact (Option.some.inj g3).symm
 have hpj:=Bc hf
 obtain ⟨d1,d2,-⟩:=Kw hpj hi _ (List.getElem_mem hml)
 have he:endV p s (i:Int) = addZ .i64 (tsS s i) md.1:=by
  unfold endV
  rw [end_eq (p:=p) (s:=s) () hi (by rw [k1]) (by rw [k2,em]) g3]
 rw [hmd,addZ64 (by omega) (by omega)] at he
 refine ⟨m,hml,em,he,t0,t6,d1,d2,fun j hj => ?_,fun k hk => ?_⟩
 ·unfold useOf
  rw [mode_eq (p:=p) (s:=s) () hi (by rw [k2,em]) g3]
  unfold atV
  simp only [Bool.false_eq_true,if_false,hmd]
 ·unfold consOf
  rw [mode_eq (p:=p) (s:=s) () hi (by rw [k2,em]) g3]
  unfold atV
  simp only [if_true,hmd]
theorem lst_one (val:D_Mode -> Int) {a:Ad} {m:Nat} (hm:m < a.2.2.1.length):lstV val a [(m:Int)] = val a.2.2.1[m]:=by
 obtain ⟨j,hj,h1,e⟩:=lstV_at val (a:=a) (ms:=[(m:Int)]) ⟨m,hm,Lm.2 (by simp)⟩
 have h2:=Lm.1 h1
 simp at h2
 have h3:j = m:=by omega
 subst h3
 exact e
structure SingV (p:Aa) (s:Ac) (i:Nat):Prop where
 mn:mnB (singD s) i = tsS s i
 mx:mxB (singD s) i = tsS s i
 dur:durM p (singD s) i = endV p s (i:Int) - tsS s i
 need:∀ j,j < p.2.2.2.1.length -> needM p (singD s) j i = useOf p s (j:Int) (i:Int) /\ 0 <= useOf p s (j:Int) (i:Int) /\ useOf p s (j:Int) (i:Int) <= 20
 cons:∀ k,k < p.2.2.2.2.1.length -> consM p (singD s) k i = consOf p s (k:Int) (i:Int) /\ 0 <= consOf p s (k:Int) (i:Int) /\ consOf p s (k:Int) (i:Int) <= 20
 work:∀ j,j < p.2.2.2.1.length -> ∀ x y,workM p (singD s) i j x y = ovI (tsS s i) (endV p s (i:Int) - tsS s i) x y * useOf p s (j:Int) (i:Int)
 t0:0 <= tsS s i
 t1:tsS s i <= 60
 e0:tsS s i + 1 <= endV p s (i:Int)
 e1:endV p s (i:Int) <= tsS s i + 12
theorem sing_at {p:Aa} {s:Ac} (hp:Af 1099511627776 p) (hf:formB p s = true) {i:Nat} (hi:i < p.2.1.length):SingV p s i:=by
 obtain ⟨m,hm,em,ee,t0,t6,d1,d2,hu,hc⟩:=sch_at hp hf hi
 obtain ⟨-,hb⟩:=Aan (Ff hf)
 obtain ⟨b1,b2,b3⟩:=hb i hi
 have hpj:=Bc hf
 rw [em] at b3
 refine ⟨b1,b2,?_,fun j hj => ?_,fun k hk => ?_,fun j hj x y => ?_,t0,t6,by omega,by omega⟩
 ·unfold durM
  rw [List.getElem?_eq_getElem hi,b3]
  simp only [lst_one _ hm]
  omega
 ·obtain ⟨-,-,u1,u2⟩:=Of hp hpj hi hj _ (List.getElem_mem hm)
  rw [hu j hj]
  refine ⟨?_,u1,u2⟩
  unfold needM
  rw [List.getElem?_eq_getElem hi,b3]
  exact lst_one _ hm
 ·have u:=Acp hp hpj hi hk _ (List.getElem_mem hm)
  rw [hc k hk]
  refine ⟨?_,u.1,u.2⟩
  unfold consM
  rw [List.getElem?_eq_getElem hi,b3]
  exact lst_one _ hm
 ·have e1:workM p (singD s) i j x y = wrk1 p (singD s) i j x y (m:Int):=by
   unfold workM
   rw [b3]
   rfl
  rw [e1,(wrk1_at hp hpj (singD s) hi hj hm x y).1,b1,b2,hu j hj,ee]
  have e2:tsS s i + p.2.1[i].2.2.1[m].1 - tsS s i = p.2.1[i].2.2.1[m].1:=by omega
  rw [e2]
  congr 1
  omega
/-! usage and consumption as sums -/
theorem Vo (q:Int -> Bool) (f:Int -> Int):∀ n:Nat,n <= 1000 -> (∀ i:Nat,i < n -> 0 <= f (i:Int) /\ f (i:Int) <= 1000) -> ((iotaI n).filter q).foldl (fun n a => addZ .i64 n (f a)) 0 = sumI (fun i => if q (i:Int) = true then f (i:Int) else 0) n
 | 0,_,_ => rfl
 | n + 1,hn,h => by
  have ih:=Vo q f n (by omega) fun i hi => h i (by omega)
  have hs:=sumI_in (f:=fun i => if q (i:Int) = true then f (i:Int) else 0) (c:=1000) (n:=n) fun i hi => by
   have:=h i (by omega)
   split <;> omega
  obtain ⟨h1,h2⟩:=h n (by omega)
  have h3:((n:Int)) * 1000 <= 1000000:=by omega
  rw [Zd,List.filter_append,List.foldl_append,ih]
  simp only [sumI]
  rcases tf (q (n:Int)) with hq | hq
  ·simp [hq]
  ·simp only [List.filter_cons,hq,if_true,List.filter_nil,List.foldl_cons,List.foldl_nil]
   rw [addZ64 (by omega) (by omega)]
theorem use_sum {p:Aa} {s:Ac} (hp:Af 1099511627776 p) (hf:formB p s = true) {j:Nat} (hj:j < p.2.2.2.1.length) (t:Int):useV p s (j:Int) t = sumI (cuseM p (singD s) j t) p.2.1.length:=by
 have h6:=(Me (Bc hf)).2
 unfold useV runL
 rw [Vo (runB p s t) (useOf p s (j:Int)) p.2.1.length (by omega) fun i hi => by have:=((sing_at hp hf hi).need j hj).2; omega]
 refine sumI_eq fun i hi => ?_
 have hS:=sing_at hp hf hi
 have hr:runB p s t (i:Int) = (leZ (tsS s i) t && ltZ t (endV p s (i:Int))):=by
  obtain ⟨x,e,md,g1,ge,-,-,-,-,-,-,gr,-⟩:=run_at hp hf hi
  obtain ⟨k1,-⟩:=(Ff hf).get hi
  rw [k1] at g1
  have ex:tsS s i = x:=Option.some.inj g1
  have ee:endV p s (i:Int) = e:=by unfold endV; rw [ge]
  rw [gr,ex,ee]
 unfold cuseM
 rw [hS.mn,hS.mx,hS.dur,(hS.need j hj).1,hr]
 have e:tsS s i + (endV p s (i:Int) - tsS s i) = endV p s (i:Int):=by omega
 rw [e]
 by_cases q:tsS s i <= t /\ t < endV p s (i:Int)
 ·rw [if_pos q,if_pos (by rw [Bool.and_eq_true,leZ_iff,ltZ_iff]; exact q)]
 ·rw [if_neg q,if_neg (by rw [Bool.and_eq_true,leZ_iff,ltZ_iff]; exact q)]
theorem run_sum (s d c:Int) (x:Int) (hd:0 <= d):∀ n:Nat,sumI (fun t => if s <= x + (t:Int) /\ x + (t:Int) < s + d then c else 0) n = ovI s d x (x + (n:Int)) * c
 | 0 => by
  have e:ovI s d x (x + ((0:Nat):Int)) = 0:=by unfold ovI; omega
  rw [e]
  simp [sumI]
 | n + 1 => by
  simp only [sumI]
  rw [run_sum s d c x hd n]
  by_cases q:s <= x + (n:Int) /\ x + (n:Int) < s + d
  ·have e:ovI s d x (x + ((n + 1:Nat):Int)) = ovI s d x (x + (n:Int)) + 1:=by unfold ovI; omega
   rw [if_pos q,e,Int.add_mul]
   omega
  ·have e:ovI s d x (x + ((n + 1:Nat):Int)) = ovI s d x (x + (n:Int)):=by unfold ovI; omega
   rw [if_neg q,e]
   omega
theorem Acd {p:Aa} {s:Ac} (hp:Af 1099511627776 p) (hf:formB p s = true) {j:Nat} (hj:j < p.2.2.2.1.length) (x n:Nat):sumI (fun t => useV p s (j:Int) ((x:Int) + (t:Int))) n = sumI (fun i => workM p (singD s) i j (x:Int) ((x + n:Nat):Int)) p.2.1.length:=by
 have e1:sumI (fun t => useV p s (j:Int) ((x:Int) + (t:Int))) n = sumI (fun t => sumI (fun i => cuseM p (singD s) j ((x:Int) + (t:Int)) i) p.2.1.length) n:=sumI_eq fun t _ => use_sum hp hf hj _
 rw [e1,Vs (fun t i => cuseM p (singD s) j ((x:Int) + (t:Int)) i) p.2.1.length n]
 refine sumI_eq fun i hi => ?_
 have hS:=sing_at hp hf hi
 have e0:=hS.e0
 rw [hS.work j hj,show ((x + n:Nat):Int) = (x:Int) + (n:Int) by omega,<- run_sum (tsS s i) (endV p s (i:Int) - tsS s i) (useOf p s (j:Int) (i:Int)) (x:Int) (by omega) n]
 refine sumI_eq fun t _ => ?_
 unfold cuseM
 rw [hS.mn,hS.mx,hS.dur,(hS.need j hj).1]
end Go.Proofs.YteggmejnpcfalaaGreat
