/-
  Plain laws: numbers in a row, lists that hold a number, sets, domains (several small texts in one). Condition: no list is longer than 2 to the 40.
-/
import Derived.Test.YteggmejnpcfalaaGreatl3LSetM
import Derived.Test.YteggmejnpcfalaaGreatl3LDomM
import Derived.Test.YteggmejnpcfalaaGreatl3LRunM
namespace Go.Proofs.YteggmejnpcfalaaGreat
open Go.Abs
set_option linter.unusedVariables false
set_option linter.unusedSimpArgs false
theorem Ss (l:List Int) (n:Int) (u:Unit) (hl:l.length <= 1099511627776):∃ b,Ax (l,n,u) () = some (b,()):=by
 have h:=My l n u hl
 unfold Ip at h
 rcases e:Ax (l,n,u) () with _ | ⟨b,v⟩
 ·have e':Ax (l,(n,())) () = none:=e
  simp [e'] at h
 ·cases v
  exact ⟨b,rfl⟩
theorem Mg {p:Aa} (h:projB p = true) {i:Nat} (hi:i < p.2.1.length):1 <= p.2.1[i].2.2.1.length /\ p.2.1[i].2.2.1.length <= 3:=by
 unfold projB at h
 simp only [Bool.and_eq_true] at h
 have:=h.1.1.1.2
 rw [List.all_eq_true] at this
 have:=this i (by simpa using hi)
 unfold actI at this
 rw [List.getElem?_eq_getElem hi] at this
 simp only [Bool.and_eq_true] at this
 have h1:=this.1
 unfold actB at h1
 simp only [Bool.and_eq_true] at h1
 have:=inB_iff.1 h1.2.2
 omega
theorem gapI_T {p:Aa} (hp:Af 1099511627776 p) (h:projB p = true) {k:D_Link} (hk:k ∈ p.2.2.1) (u:Unit):∃ g,Bg (p,k,u) () = some (g,()):=by
 obtain ⟨i,hi,rfl⟩:=List.mem_iff_getElem.1 hk
 obtain ⟨f,t,ef,et,hf,ht,-⟩:=link_at hp h hi
 have h3:=(Mg h hf).2
 have gf:getI p.2.1 p.2.2.1[i].1 = some p.2.1[f]:=by rw [ef]; exact getI_lt hf
 unfold Bg If
 simp only [gf,Ab,I1 p.2.1[f] _ (by omega),Ib p.2.1[f] _ _ (by omega) (show (iotaI p.2.1[f].2.2.1.length).length <= 1099511627776 by simp [iotaI]; omega)]
 rcases tf p.2.2.1[i].2.2.1 with q | q <;> simp only [q,if_true,Bool.false_eq_true,if_false,Ab] <;> exact ⟨_,rfl⟩
/-- the numbers of links -/
def InK (K:Nat) (l:List Int):Prop:=∀ x ∈ l,∃ i:Nat,x = (i:Int) /\ i < K
theorem InK.get {K:Nat} {l:List Int} (h:InK K l) {i:Nat} (hi:i < l.length):∃ j:Nat,getI l (i:Int) = some (j:Int) /\ j < K:=by
 obtain ⟨j,e,hj⟩:=h _ (List.getElem_mem hi)
 exact ⟨j,by rw [getI_lt hi,e],hj⟩
abbrev cyC:List Int -> Option (List Int):=fun l => (Am (l,()) ()).map (·.1)
abbrev cyH:List Int -> Int -> Option Bool:=fun l y => (Ax (l,y,()) ()).map (·.1)
abbrev cyG (p:Aa):Lnk -> Option Int:=fun k => (Bg (p,k,()) ()).map (·.1)
theorem cycL_T {p:Aa} (hp:Af 1099511627776 p) (h:projB p = true) {rec_:List Int -> List Int -> Int -> Option (List Int)} {links vis:List Int} (hK:InK p.2.2.1.length links) (h1:links.length <= 900) (h2:vis.length <= 900) (l0 to sum:Int)
  (hrec:∀ (i:Nat) (s:Int),i < p.2.2.1.length -> ∃ o,rec_ (links ++ [(i:Int)]) (vis ++ [to]) s = some o) :
  ∀ (r:List D_Link) (i:Nat),(∀ k ∈ r,k ∈ p.2.2.1) -> i + r.length = p.2.2.1.length -> ∃ o,cycL rec_ cyC (cyG p) l0 to links vis sum r i = some o
 | [],i,_,_ => ⟨[],rfl⟩
 | k :: r,i,hm,hl => by
  obtain ⟨o1,e1⟩:=cycL_T hp h hK h1 h2 l0 to sum hrec r (i + 1) (fun k hk => hm k (List.mem_cons_of_mem _ hk)) (by simp at hl; omega)
  show ∃ o,(if l0 < (i:Int) /\ k.1 = to then _ else _) = some o
  by_cases hc:l0 < (i:Int) /\ k.1 = to
  ·rw [if_pos hc]
   obtain ⟨g,eg⟩:=gapI_T hp h (hm k (List.mem_cons_self ..)) ()
   have c1:cyC links = some links:=by show Option.map _ _ = _; rw [cloneR links _ (by omega)]; rfl
   have c2:cyC vis = some vis:=by show Option.map _ _ = _; rw [cloneR vis _ (by omega)]; rfl
   have c3:cyG p k = some g:=by show Option.map _ _ = _; rw [eg]; rfl
   obtain ⟨o2,e2⟩:=hrec i (IntKind.i64.wrap (sum + g)) (by simp at hl; omega)
   simp only [c1,c2,c3,Ab]
   rw [if_pos (by omega),e2]
   simp only [Ab]
   by_cases ho:o2 = []
   ·rw [if_pos ho]; exact ⟨o1,e1⟩
   ·rw [if_neg ho]; exact ⟨_,rfl⟩
  ·rw [if_neg hc]; exact ⟨o1,e1⟩
theorem cycF_T {p:Aa} (hp:Af 1099511627776 p) (h:projB p = true) (len:Nat) (hlen:len <= 6):∀ (f:Nat) (links vis:List Int) (sum:Int),InK p.2.2.1.length links -> 0 < links.length -> links.length <= len -> vis.length <= links.length -> len < f + links.length ->
  ∃ o,cycF cyC cyH p (cyG p) f links vis sum (len:Int) = some o
 | 0,links,vis,sum,hK,h0,h1,h2,hf => by omega
 | f + 1,links,vis,sum,hK,h0,h1,h2,hf => by
  have hk12:=(Mb h).2.2
  obtain ⟨i0,e0,hi0⟩:=hK.get h0
  obtain ⟨i1,e1,hi1⟩:=hK.get (show links.length - 1 < links.length by omega)
  have e1':getI links ((links.length:Int) - 1) = some (i1:Int):=by rw [show ((links.length:Int) - 1) = ((links.length - 1:Nat):Int) by omega]; exact e1
  show ∃ o,(if 1000 <= links.length \/ 1000 <= p.2.2.1.length then none else (getI links 0).bind fun l0 => (getI p.2.2.1 l0).bind fun k0 => (getI links ((links.length:Int) - 1)).bind fun l1 => (getI p.2.2.1 l1).bind fun k1 => _) = some o
  rw [if_neg (by omega),show getI links 0 = some (i0:Int) from e0]
  simp only [Ab,e1',getI_lt hi0,getI_lt hi1]
  by_cases hl:(links.length:Int) = (len:Int)
  ·rw [if_pos hl]
   by_cases hc:p.2.2.1[i1].2.1 = p.2.2.1[i0].1 /\ 0 < sum
   ·rw [if_pos hc]
    have c1:cyC links = some links:=by show Option.map _ _ = _; rw [cloneR links _ (by omega)]; rfl
    rw [c1]
    simp only [Ab]
    rw [if_neg (fun e => by rw [e] at h0; simp at h0)]
    exact ⟨_,rfl⟩
   ·rw [if_neg hc]; exact ⟨_,rfl⟩
  ·rw [if_neg hl]
   obtain ⟨b,eb⟩:=Ss vis p.2.2.1[i1].2.1 () (by omega)
   have c1:cyH vis p.2.2.1[i1].2.1 = some b:=by show Option.map _ _ = _; rw [eb]; rfl
   rw [c1]
   simp only [Ab]
   by_cases hb:b = true
   ·rw [if_pos hb]; exact ⟨_,rfl⟩
   ·rw [if_neg hb]
    refine cycL_T hp h hK (by omega) (by omega) _ _ sum (fun i s hi => ?_) p.2.2.1 0 (fun k hk => hk) (by simp)
    refine cycF_T hp h len hlen f (links ++ [(i:Int)]) (vis ++ [p.2.2.1[i1].2.1]) s (fun x hx => ?_) (by simp) (by simp; omega) (by simp; omega) (by simp; omega)
    rcases List.mem_append.1 hx with hx | hx
    ·exact hK x hx
    ·rw [List.mem_singleton.1 hx]; exact ⟨i,rfl,hi⟩
theorem posI_T {p:Aa} (hp:Af 1099511627776 p) (h:projB p = true) (len:Nat) (h0:1 <= len) (hlen:len <= 6):∀ (r:List D_Link) (i:Nat),(∀ k ∈ r,k ∈ p.2.2.1) -> i + r.length = p.2.2.1.length ->
  ∃ o,posI (fun a b s => cycF cyC cyH p (cyG p) ((len:Int).toNat + 1) a b s (len:Int)) (cyG p) r i = some o
 | [],i,_,_ => ⟨[],rfl⟩
 | k :: r,i,hm,hl => by
  obtain ⟨o1,e1⟩:=posI_T hp h len h0 hlen r (i + 1) (fun k hk => hm k (List.mem_cons_of_mem _ hk)) (by simp at hl; omega)
  obtain ⟨g,eg⟩:=gapI_T hp h (hm k (List.mem_cons_self ..)) ()
  have c3:cyG p k = some g:=by show Option.map _ _ = _; rw [eg]; rfl
  obtain ⟨o2,e2⟩:=cycF_T hp h len hlen ((len:Int).toNat + 1) [(i:Int)] [k.1] g (fun x hx => by rw [List.mem_singleton.1 hx]; exact ⟨i,rfl,by simp at hl; omega⟩) (by simp) (by simpa using h0) (by simp) (by simp; omega)
  show ∃ o,(cyG p k).bind _ = some o
  rw [c3]
  simp only [Ab,e2]
  by_cases ho:o2 = []
  ·rw [if_pos ho]; exact ⟨o1,e1⟩
  ·rw [if_neg ho]; exact ⟨_,rfl⟩
theorem posO_T {p:Aa} (hp:Af 1099511627776 p) (h:projB p = true):∀ (n len:Nat),1 <= len -> len + n <= 7 -> ∃ o,posO (fun len a b s => cycF cyC cyH p (cyG p) (len.toNat + 1) a b s len) (cyG p) p.2.2.1 n len = some o
 | 0,len,_,_ => ⟨[],rfl⟩
 | n + 1,len,h1,h2 => by
  obtain ⟨o1,e1⟩:=posO_T hp h n (len + 1) (by omega) (by omega)
  obtain ⟨o2,e2⟩:=posI_T hp h len h1 (by omega) p.2.2.1 0 (fun k hk => hk) (by simp)
  show ∃ o,(posI _ _ _ 0).bind _ = some o
  rw [e2]
  simp only [Ab]
  by_cases ho:o2 = []
  ·rw [if_pos ho]; exact ⟨o1,e1⟩
  ·rw [if_neg ho]; exact ⟨_,rfl⟩
theorem dL_T {p:Aa} (hp:Af 1099511627776 p) (h:projB p = true):∀ (r:List D_Link) (s:DSt),(∀ k ∈ r,k ∈ p.2.2.1) -> ∃ s',dL (cyG p) p.2.1.length r s = some s'
 | [],s,_ => ⟨s,rfl⟩
 | k :: r,s,hm => by
  obtain ⟨g,eg⟩:=gapI_T hp h (hm k (List.mem_cons_self ..)) ()
  have c3:cyG p k = some g:=by show Option.map _ _ = _; rw [eg]; rfl
  obtain ⟨i,hi,ek⟩:=List.mem_iff_getElem.1 (hm k (List.mem_cons_self ..))
  obtain ⟨f,t,ef,et,hf,ht,-⟩:=link_at hp h hi
  rw [ek] at ef et
  obtain ⟨s',e⟩:=dL_T hp h r (addN s k.1.toNat k.2.1.toNat g) (fun k hk => hm k (List.mem_cons_of_mem _ hk))
  refine ⟨s',?_⟩
  show (cyG p k).bind _ = some s'
  rw [c3]
  simp only [Ab]
  rw [if_pos (by rw [ef,et]; omega)]
  exact e
open Go.Abs
set_option linter.unusedVariables false
set_option linter.unusedSimpArgs false
theorem Jr {x:Int} (h1:-9223372036854775808 <= x) (h2:x <= 9223372036854775807):IntKind.i64.wrap x = x:=by
 rw [IntKind.wrap_i64]
 omega
theorem Vl {rec_:List Int -> List Int -> Int -> Option (List Int)} {C:List Int -> Option (List Int)} {G:Lnk -> Option Int} {l0 to sum:Int} {links vis:List Int} (hC:C links = some links) (hV:C vis = some vis) :
  ∀ (r:List Lnk) (i:Nat) {o:List Int},cycL rec_ C G l0 to links vis sum r i = some o -> o ≠ [] -> ∃ (j:Nat) (hj:j < r.length),r[j].1 = to /\ ∃ g,G r[j] = some g /\ rec_ (links ++ [((i + j:Nat):Int)]) (vis ++ [to]) (IntKind.i64.wrap (sum + g)) = some o
 | [],i,o,e,ho => by cases e; exact absurd rfl ho
 | k :: r,i,o,e,ho => by
  have next:cycL rec_ C G l0 to links vis sum r (i + 1) = some o -> ∃ (j:Nat) (hj:j < (k :: r).length),(k :: r)[j].1 = to /\ ∃ g,G (k :: r)[j] = some g /\ rec_ (links ++ [((i + j:Nat):Int)]) (vis ++ [to]) (IntKind.i64.wrap (sum + g)) = some o:=fun e => by
   obtain ⟨j,hj,h2,g,h3,h4⟩:=Vl hC hV r (i + 1) e ho
   rw [show i + 1 + j = i + (j + 1) by omega] at h4
   exact ⟨j + 1,by simpa using hj,h2,g,h3,h4⟩
  have e':(if l0 < (i:Int) /\ k.1 = to then (C links).bind fun c => (C vis).bind fun v => (G k).bind fun g => if c.length < 1000 /\ v.length < 1000 then
    (rec_ (c ++ [(i:Int)]) (v ++ [to]) (IntKind.i64.wrap (sum + g))).bind fun out => if out = [] then cycL rec_ C G l0 to links vis sum r (i + 1) else some out else none
    else cycL rec_ C G l0 to links vis sum r (i + 1)) = some o:=e
  by_cases hc:l0 < (i:Int) /\ k.1 = to
  ·rw [if_pos hc,hC,Ab,hV,Ab] at e'
   obtain ⟨g,eg,e2⟩:=Option.bind_eq_some_iff.1 e'
   by_cases hl:links.length < 1000 /\ vis.length < 1000
   ·rw [if_pos hl] at e2
    obtain ⟨o2,eo,e3⟩:=Option.bind_eq_some_iff.1 e2
    by_cases h2:o2 = []
    ·rw [if_pos h2] at e3; exact next e3
    ·rw [if_neg h2] at e3
     cases e3
     exact ⟨0,by simp,hc.2,g,eg,eo⟩
   ·rw [if_neg hl] at e2; cases e2
  ·rw [if_neg hc] at e'; exact next e'
theorem Yc {rec_:List Int -> List Int -> Int -> Option (List Int)} {C:List Int -> Option (List Int)} {G:Lnk -> Option Int} {l0 to sum:Int} {links vis:List Int} (hC:C links = some links) (hV:C vis = some vis) :
  ∀ (r:List Lnk) (i:Nat),cycL rec_ C G l0 to links vis sum r i = some [] -> ∀ (j:Nat) (hj:j < r.length),l0 < ((i + j:Nat):Int) -> r[j].1 = to -> ∃ g,G r[j] = some g /\ rec_ (links ++ [((i + j:Nat):Int)]) (vis ++ [to]) (IntKind.i64.wrap (sum + g)) = some []
 | [],i,e,j,hj => absurd hj (by simp)
 | k :: r,i,e,j,hj => fun h1 h2 => by
  have e':(if l0 < (i:Int) /\ k.1 = to then (C links).bind fun c => (C vis).bind fun v => (G k).bind fun g => if c.length < 1000 /\ v.length < 1000 then
    (rec_ (c ++ [(i:Int)]) (v ++ [to]) (IntKind.i64.wrap (sum + g))).bind fun out => if out = [] then cycL rec_ C G l0 to links vis sum r (i + 1) else some out else none
    else cycL rec_ C G l0 to links vis sum r (i + 1)) = some []:=e
  have next:cycL rec_ C G l0 to links vis sum r (i + 1) = some [] -> ∀ j',j = j' + 1 -> ∃ g,G (k :: r)[j] = some g /\ rec_ (links ++ [((i + j:Nat):Int)]) (vis ++ [to]) (IntKind.i64.wrap (sum + g)) = some []:=fun e j' hjj => by
   subst hjj
   have:=Yc hC hV r (i + 1) e j' (by simpa using hj) (by rw [show i + 1 + j' = i + (j' + 1) by omega]; exact h1) (by simpa using h2)
   rw [show i + 1 + j' = i + (j' + 1) by omega] at this
   simpa using this
  by_cases hc:l0 < (i:Int) /\ k.1 = to
  ·rw [if_pos hc,hC,Ab,hV,Ab] at e'
   obtain ⟨g,eg,e2⟩:=Option.bind_eq_some_iff.1 e'
   by_cases hl:links.length < 1000 /\ vis.length < 1000
   ·rw [if_pos hl] at e2
    obtain ⟨o2,eo,e3⟩:=Option.bind_eq_some_iff.1 e2
    by_cases h3:o2 = []
    ·rw [if_pos h3] at e3
     cases j with
     | zero => exact ⟨g,eg,by rw [h3] at eo; exact eo⟩
     | succ j' => exact next e3 j' rfl
    ·rw [if_neg h3] at e3
     exact absurd (Option.some.inj e3) h3
   ·rw [if_neg hl] at e2; cases e2
  ·rw [if_neg hc] at e'
   cases j with
   | zero => exact absurd ⟨by simpa using h1,by simpa using h2⟩ hc
   | succ j' => exact next e' j' rfl
theorem V9 {cy:List Int -> List Int -> Int -> Option (List Int)} {G:Lnk -> Option Int}:∀ (r:List Lnk) (i:Nat) {o:List Int},posI cy G r i = some o -> o ≠ [] -> ∃ (j:Nat) (hj:j < r.length),∃ g,G r[j] = some g /\ cy [((i + j:Nat):Int)] [r[j].1] g = some o
 | [],i,o,e,ho => by cases e; exact absurd rfl ho
 | k :: r,i,o,e,ho => by
  obtain ⟨g,eg,e2⟩:=Option.bind_eq_some_iff.1 (show (G k).bind _ = some o from e)
  obtain ⟨o2,eo,e3⟩:=Option.bind_eq_some_iff.1 e2
  by_cases h2:o2 = []
  ·rw [if_pos h2] at e3
   obtain ⟨j,hj,g',h3,h4⟩:=V9 r (i + 1) e3 ho
   rw [show i + 1 + j = i + (j + 1) by omega] at h4
   exact ⟨j + 1,by simpa using hj,g',h3,h4⟩
  ·rw [if_neg h2] at e3
   cases e3
   exact ⟨0,by simp,g,eg,eo⟩
theorem Xs {cy:List Int -> List Int -> Int -> Option (List Int)} {G:Lnk -> Option Int}:∀ (r:List Lnk) (i:Nat),posI cy G r i = some [] -> ∀ (j:Nat) (hj:j < r.length),∃ g,G r[j] = some g /\ cy [((i + j:Nat):Int)] [r[j].1] g = some []
 | [],i,e,j,hj => absurd hj (by simp)
 | k :: r,i,e,j,hj => by
  obtain ⟨g,eg,e2⟩:=Option.bind_eq_some_iff.1 (show (G k).bind _ = some [] from e)
  obtain ⟨o2,eo,e3⟩:=Option.bind_eq_some_iff.1 e2
  by_cases h2:o2 = []
  ·rw [if_pos h2] at e3
   cases j with
   | zero => exact ⟨g,eg,by rw [h2] at eo; exact eo⟩
   | succ j' =>
    have:=Xs r (i + 1) e3 j' (by simpa using hj)
    rw [show i + 1 + j' = i + (j' + 1) by omega] at this
    simpa using this
  ·rw [if_neg h2] at e3
   exact absurd (Option.some.inj e3) h2
theorem Vw {cy:Int -> List Int -> List Int -> Int -> Option (List Int)} {G:Lnk -> Option Int} {ls:List Lnk}:∀ (n len:Nat) {o:List Int},posO cy G ls n len = some o -> o ≠ [] -> ∃ len':Nat,len' < len + n /\ posI (cy (len':Int)) G ls 0 = some o
 | 0,len,o,e,ho => by cases e; exact absurd rfl ho
 | n + 1,len,o,e,ho => by
  obtain ⟨o2,eo,e3⟩:=Option.bind_eq_some_iff.1 (show (posI (cy (len:Int)) G ls 0).bind _ = some o from e)
  by_cases h2:o2 = []
  ·rw [if_pos h2] at e3
   obtain ⟨l',hl,h⟩:=Vw n (len + 1) e3 ho
   exact ⟨l',by omega,h⟩
  ·rw [if_neg h2] at e3
   cases e3
   exact ⟨len,by omega,eo⟩
theorem Ack {cy:Int -> List Int -> List Int -> Int -> Option (List Int)} {G:Lnk -> Option Int} {ls:List Lnk} {n len:Nat} (e:posO cy G ls (n + 1) len = some []):posI (cy (len:Int)) G ls 0 = some []:=by
 obtain ⟨o2,eo,e3⟩:=Option.bind_eq_some_iff.1 (show (posI (cy (len:Int)) G ls 0).bind _ = some [] from e)
 by_cases h2:o2 = []
 ·rw [h2] at eo; exact eo
 ·rw [if_neg h2] at e3
  exact absurd (Option.some.inj e3) h2
/-- starts that satisfy the links -/
structure LinkOk (p:Aa) (σ:Nat -> Int):Prop where
 r:∀ i,0 <= σ i /\ σ i <= 1000
 k:∀ k ∈ p.2.2.1,∀ g,cyG p k = some g -> g <= σ k.2.1.toNat - σ k.1.toNat
/-- a path of links, as far as it has come -/
structure Sd (p:Aa) (σ:Nat -> Int) (links:List Int) (sum:Int):Prop where
 pos:0 < links.length
 lo:-100 * (links.length:Int) <= sum
 up:∀ l0 k0 l1 k1,getI links 0 = some l0 -> getI p.2.2.1 l0 = some k0 -> getI links ((links.length:Int) - 1) = some l1 -> getI p.2.2.1 l1 = some k1 -> sum <= σ k1.2.1.toNat - σ k0.1.toNat
theorem cyC_ok (l:List Int) (h:l.length <= 900):cyC l = some l:=by show Option.map _ _ = _; rw [cloneR l _ (by omega)]; rfl
theorem Zz {l:List Int} (x:Int) (h:0 < l.length):getI (l ++ [x]) 0 = getI l 0:=by
 cases l with
 | nil => simp at h
 | cons a l => rfl
theorem Aal (l:List Int) (x:Int):getI (l ++ [x]) (((l ++ [x]).length:Int) - 1) = some x:=by
 rw [show (((l ++ [x]).length:Int) - 1) = (l.length:Int) by simp]
 rw [getI_lt (show l.length < (l ++ [x]).length by simp)]
 simp
theorem cycF_S {p:Aa} {σ:Nat -> Int} (hσ:LinkOk p σ) (hg:∀ k ∈ p.2.2.1,∀ g,cyG p k = some g -> -100 <= g) (len:Int):∀ (f:Nat) (links vis:List Int) (sum:Int) (o:List Int),Sd p σ links sum -> links.length + f <= 900 -> vis.length + f <= 900 ->
  cycF cyC cyH p (cyG p) f links vis sum len = some o -> o = []
 | 0,links,vis,sum,o,hS,h1,h2,e => by cases e
 | f + 1,links,vis,sum,o,hS,h1,h2,e => by
  have e':(if 1000 <= links.length \/ 1000 <= (lnks p).length then none else (getI links 0).bind fun l0 => (getI (lnks p) l0).bind fun k0 => (getI links ((links.length:Int) - 1)).bind fun l1 => (getI (lnks p) l1).bind fun k1 =>
   if (links.length:Int) = len then (if k1.2.1 = k0.1 /\ 0 < sum then (cyC links).bind fun c => if c = [] then none else some c else some [])
   else (cyH vis k1.2.1).bind fun h => if h = true then some [] else cycL (fun a b s => cycF cyC cyH p (cyG p) f a b s len) cyC (cyG p) l0 k1.2.1 links vis sum (lnks p) 0) = some o:=e
  by_cases hb:1000 <= links.length \/ 1000 <= (lnks p).length
  ·rw [if_pos hb] at e'; cases e'
  ·rw [if_neg hb] at e'
   obtain ⟨l0,el0,e1⟩:=Option.bind_eq_some_iff.1 e'
   obtain ⟨k0,ek0,e2⟩:=Option.bind_eq_some_iff.1 e1
   obtain ⟨l1,el1,e3⟩:=Option.bind_eq_some_iff.1 e2
   obtain ⟨k1,ek1,e4⟩:=Option.bind_eq_some_iff.1 e3
   have up:=hS.up l0 k0 l1 k1 el0 ek0 el1 ek1
   by_cases hl:(links.length:Int) = len
   ·rw [if_pos hl] at e4
    by_cases hc:k1.2.1 = k0.1 /\ 0 < sum
    ·rw [hc.1] at up
     exact absurd hc.2 (by omega)
    ·rw [if_neg hc] at e4
     cases e4; rfl
   ·rw [if_neg hl] at e4
    obtain ⟨h,eh,e5⟩:=Option.bind_eq_some_iff.1 e4
    by_cases hh:h = true
    ·rw [if_pos hh] at e5; cases e5; rfl
    ·rw [if_neg hh] at e5
     by_cases ho:o = []
     ·exact ho
     ·obtain ⟨j,hj,h3,g,eg,h4⟩:=Vl (cyC_ok links (by omega)) (cyC_ok vis (by omega)) (lnks p) 0 e5 ho
      have hm:(lnks p)[j] ∈ p.2.2.1:=List.getElem_mem hj
      have hk:=hσ.k _ hm g eg
      have hlo:=hg _ hm g eg
      rw [h3] at hk
      have r0:=hσ.r k0.1.toNat
      have r1:=hσ.r k1.2.1.toNat
      have r2:=hσ.r (lnks p)[j].2.1.toNat
      have lo:=hS.lo
      have hw:IntKind.i64.wrap (sum + g) = sum + g:=Jr (by omega) (by omega)
      rw [hw] at h4
      refine cycF_S hσ hg len f _ _ _ o ⟨by simp,by simp; omega,fun l0' k0' l1' k1' a1 a2 a3 a4 => ?_⟩ (by simp; omega) (by simp; omega) h4
      rw [Zz _ hS.pos,el0] at a1
      cases a1
      rw [show getI p.2.2.1 l0 = some k0 from ek0] at a2
      cases a2
      rw [Aal] at a3
      cases a3
      rw [Nat.zero_add,show getI p.2.2.1 (j:Int) = some (lnks p)[j] from getI_lt hj] at a4
      cases a4
      show _ <= σ (lnks p)[j].2.1.toNat - _
      omega
/-- two links there and back -/
def Opp (p:Aa):Prop:=∀ (i j:Nat) (hi:i < p.2.2.1.length) (hj:j < p.2.2.1.length),p.2.2.1[i].2.1 = p.2.2.1[j].1 -> p.2.2.1[j].2.1 = p.2.2.1[i].1 -> ∀ g g',cyG p p.2.2.1[i] = some g -> cyG p p.2.2.1[j] = some g' -> g + g' <= 0
theorem cyH_ok (l:List Int) (n:Int) (hl:l.length <= 900):cyH l n = some (hasB l n):=by
 have h:=My l n () (by omega)
 obtain ⟨b,eb⟩:=Ss l n () (by omega)
 unfold Ip at h
 have e':Ax (l,(n,())) () = some (b,()):=eb
 simp only [e',Ab] at h
 have:=Option.some.inj h
 show Option.map _ _ = _
 rw [e',<- (Prod.mk.inj this).1]
 rfl
theorem cyc2 {p:Aa} {i j:Nat} (hi:i < p.2.2.1.length) (hj:j < p.2.2.1.length) (hne:p.2.2.1[i].2.1 ≠ p.2.2.1[i].1) (hij:i < j) (h12:p.2.2.1[i].2.1 = p.2.2.1[j].1) (h21:p.2.2.1[j].2.1 = p.2.2.1[i].1) {g g':Int} (hg:-1000 <= g /\ g <= 1000) (hg2:-1000 <= g' /\ g' <= 1000) (eg':cyG p p.2.2.1[j] = some g')
  (e:cycF cyC cyH p (cyG p) 3 [(i:Int)] [p.2.2.1[i].1] g 2 = some []):g + g' <= 0:=by
 have e':(if 1000 <= [(i:Int)].length \/ 1000 <= (lnks p).length then none else (getI [(i:Int)] 0).bind fun l0 => (getI (lnks p) l0).bind fun k0 => (getI [(i:Int)] (([(i:Int)].length:Int) - 1)).bind fun l1 => (getI (lnks p) l1).bind fun k1 =>
   if ([(i:Int)].length:Int) = 2 then (if k1.2.1 = k0.1 /\ 0 < g then (cyC [(i:Int)]).bind fun c => if c = [] then none else some c else some [])
   else (cyH [p.2.2.1[i].1] k1.2.1).bind fun h => if h = true then some [] else cycL (fun a b s => cycF cyC cyH p (cyG p) 2 a b s 2) cyC (cyG p) l0 k1.2.1 [(i:Int)] [p.2.2.1[i].1] g (lnks p) 0) = some []:=e
 by_cases hb:1000 <= [(i:Int)].length \/ 1000 <= (lnks p).length
 ·rw [if_pos hb] at e'; cases e'
 ·rw [if_neg hb] at e'
  have a1:getI [(i:Int)] 0 = some (i:Int):=rfl
  have a2:getI [(i:Int)] (([(i:Int)].length:Int) - 1) = some (i:Int):=rfl
  have a3:getI (lnks p) (i:Int) = some p.2.2.1[i]:=getI_lt hi
  simp only [a1,a2,a3,Ab] at e'
  rw [if_neg (show ¬([(i:Int)].length:Int) = 2 by simp),cyH_ok _ _ (by simp),Ab] at e'
  have hf:hasB [p.2.2.1[i].1] p.2.2.1[i].2.1 = false:=by
   unfold hasB
   simp only [List.any_cons,List.any_nil,Bool.or_false]
   rw [eqZ_ne]
   first | exact hne | exact fun e => hne e.symm
  rw [hf,if_neg (by simp)] at e'
  obtain ⟨g2,eg2,h3⟩:=Yc (cyC_ok _ (by simp)) (cyC_ok _ (by simp)) (lnks p) 0 e' j hj (by omega) h12.symm
  have eg3:cyG p (lnks p)[j] = some g':=eg'
  rw [eg3] at eg2
  cases eg2
  rw [Nat.zero_add,Jr (by omega) (by omega)] at h3
  have e2:(if 1000 <= ([(i:Int)] ++ [(j:Int)]).length \/ 1000 <= (lnks p).length then none else (getI ([(i:Int)] ++ [(j:Int)]) 0).bind fun l0 => (getI (lnks p) l0).bind fun k0 => (getI ([(i:Int)] ++ [(j:Int)]) ((([(i:Int)] ++ [(j:Int)]).length:Int) - 1)).bind fun l1 => (getI (lnks p) l1).bind fun k1 =>
   if (([(i:Int)] ++ [(j:Int)]).length:Int) = 2 then (if k1.2.1 = k0.1 /\ 0 < g + g' then (cyC ([(i:Int)] ++ [(j:Int)])).bind fun c => if c = [] then none else some c else some [])
   else (cyH ([p.2.2.1[i].1] ++ [p.2.2.1[i].2.1]) k1.2.1).bind fun h => if h = true then some [] else cycL (fun a b s => cycF cyC cyH p (cyG p) 1 a b s 2) cyC (cyG p) l0 k1.2.1 ([(i:Int)] ++ [(j:Int)]) ([p.2.2.1[i].1] ++ [p.2.2.1[i].2.1]) (g + g') (lnks p) 0) = some []:=h3
  rw [if_neg (by simp; simp at hb; exact hb)] at e2
  have b1:getI ([(i:Int)] ++ [(j:Int)]) 0 = some (i:Int):=rfl
  have b2:getI ([(i:Int)] ++ [(j:Int)]) ((([(i:Int)] ++ [(j:Int)]).length:Int) - 1) = some (j:Int):=rfl
  have b3:getI (lnks p) (j:Int) = some p.2.2.1[j]:=getI_lt hj
  simp only [b1,b2,a3,b3,Ab] at e2
  rw [if_pos (show (([(i:Int)] ++ [(j:Int)]).length:Int) = 2 by simp)] at e2
  by_cases hc:p.2.2.1[j].2.1 = p.2.2.1[i].1 /\ 0 < g + g'
  ·rw [if_pos hc,cyC_ok _ (by simp),Ab,if_neg (by simp)] at e2
   cases e2
  ·have:¬ 0 < g + g':=fun h => hc ⟨h21,h⟩
   omega
/-- what is known of the program's search for a cycle -/
theorem Pos_V {p:Aa} (hp:Af 1099511627776 p) (h:projB p = true) (hg:∀ k ∈ p.2.2.1,∀ g,cyG p k = some g -> -100 <= g /\ g <= 100):∃ c,(∀ u,Bh (p,u) () = some (c,())) /\ (c ≠ [] -> ∀ σ,LinkOk p σ -> False) /\ (c = [] -> p.2.1.length = 2 -> Opp p):=by
 have h6:=(Me h).2
 have hk12:=(Mb h).2.2
 obtain ⟨o,e⟩:=posO_T hp h (p.2.1.length - 1) 2 (by omega) (by omega)
 refine ⟨o,fun u => ?_,fun ho σ hσ => ?_,fun ho hn => ?_⟩
 ·show ((Ao (p,()) ()).map (·.1)).bind (fun ok => if ok = true then (if 1000 <= p.2.2.1.length \/ 1000 <= p.2.1.length then none else (posO (fun len a b s => cycF cyC cyH p (cyG p) (len.toNat + 1) a b s len) (cyG p) p.2.2.1 (p.2.1.length - 1) 2).map fun r => (r,())) else some ([],())) = _
  rw [Ay p () hp,h]
  simp only [Option.map_some,Ab,if_true]
  rw [if_neg (by omega),e]
  rfl
 ·obtain ⟨len,hl,e1⟩:=Vw _ _ e ho
  obtain ⟨j,hj,g,eg,e2⟩:=V9 _ _ e1 ho
  have hm:=List.getElem_mem hj
  have hk:=hσ.k _ hm g eg
  have hlo:=hg _ hm g eg
  refine ho (cycF_S hσ (fun k hk g e => (hg k hk g e).1) (len:Int) ((len:Int).toNat + 1) _ _ _ o ⟨by simp,by simp; omega,fun l0 k0 l1 k1 a1 a2 a3 a4 => ?_⟩ (by simp; omega) (by simp; omega) e2)
  rw [Nat.zero_add] at a1 a3
  have b1:getI [(j:Int)] 0 = some (j:Int):=rfl
  have b2:getI [(j:Int)] (([(j:Int)].length:Int) - 1) = some (j:Int):=rfl
  rw [b1] at a1
  rw [b2] at a3
  cases a1
  cases a3
  rw [getI_lt hj] at a2 a4
  cases a2
  cases a4
  exact hk
 ·subst ho
  rw [hn] at e
  have e1:=Ack (n:=0) (show posO _ _ _ (0 + 1) 2 = some [] from e)
  have one:∀ (i j:Nat) (hi:i < p.2.2.1.length) (hj:j < p.2.2.1.length),i < j -> p.2.2.1[i].2.1 = p.2.2.1[j].1 -> p.2.2.1[j].2.1 = p.2.2.1[i].1 -> ∀ g g',cyG p p.2.2.1[i] = some g -> cyG p p.2.2.1[j] = some g' -> g + g' <= 0:=fun i j hi hj hij h12 h21 g g' eg eg' => by
   obtain ⟨f,t,ef,et,hf,ht,hft,-⟩:=link_at hp h hi
   obtain ⟨g2,eg2,e2⟩:=Xs _ _ e1 i hi
   rw [eg] at eg2
   cases eg2
   have q1:=hg _ (List.getElem_mem hi) g eg
   have q2:=hg _ (List.getElem_mem hj) g' eg'
   rw [Nat.zero_add] at e2
   exact cyc2 hi hj (by rw [ef,et]; omega) hij h12 h21 (by omega) (by omega) eg' e2
  intro i j hi hj h12 h21 g g' eg eg'
  rcases Nat.lt_trichotomy i j with q | q | q
  ·exact one i j hi hj q h12 h21 g g' eg eg'
  ·subst q
   obtain ⟨f,t,ef,et,hf,ht,hft,-⟩:=link_at hp h hi
   rw [ef,et] at h12
   exact absurd h12 (by omega)
  ·have:=one j i hj hi q h21 h12 g' g eg' eg
   omega
/-! distances -/
structure DInv (p:Aa) (s:DSt):Prop where
 d:∀ i,s.2 i i = true /\ s.1 i i = 0
 o:∀ i k:Nat,i ≠ k -> s.2 i k = true -> ∃ (j:Nat) (hj:j < p.2.2.1.length),p.2.2.1[j].1 = (i:Int) /\ p.2.2.1[j].2.1 = (k:Int) /\ cyG p p.2.2.1[j] = some (s.1 i k)
theorem d0_inv (p:Aa):DInv p Go.Proofs.d0:=⟨fun i => ⟨by simp [Go.Proofs.d0],rfl⟩,fun i k hik hm => by
 have e:k = i:=by simpa [Go.Proofs.d0] using hm
 exact absurd e.symm hik⟩
theorem DInv.add {p:Aa} {s:DSt} (h:DInv p s) {j f t:Nat} (hj:j < p.2.2.1.length) (ef:p.2.2.1[j].1 = (f:Int)) (et:p.2.2.1[j].2.1 = (t:Int)) (hft:f ≠ t) {g:Int} (eg:cyG p p.2.2.1[j] = some g):DInv p (addN s f t g):=by
 unfold addN
 by_cases hc:s.2 f t = false \/ s.1 f t < g
 ·rw [if_pos hc]
  refine ⟨fun i => ?_,fun i k hik hm => ?_⟩
  ·have hn:¬(i = f /\ i = t):=fun e => hft (e.1.symm.trans e.2)
   show upd2 s.2 f t true i i = true /\ upd2 s.1 f t g i i = 0
   unfold upd2
   rw [if_neg hn,if_neg hn]
   exact h.d i
  ·have hm':upd2 s.2 f t true i k = true:=hm
   show ∃ (j:Nat) (hj:j < p.2.2.1.length),p.2.2.1[j].1 = (i:Int) /\ p.2.2.1[j].2.1 = (k:Int) /\ cyG p p.2.2.1[j] = some (upd2 s.1 f t g i k)
   unfold upd2 at hm' ⊢
   by_cases e:i = f /\ k = t
   ·obtain ⟨rfl,rfl⟩:=e
    rw [if_pos ⟨rfl,rfl⟩]
    exact ⟨j,hj,ef,et,eg⟩
   ·rw [if_neg e] at hm' ⊢
    exact h.o i k hik hm'
 ·rw [if_neg hc]; exact h
theorem dL_inv {p:Aa} (hp:Af 1099511627776 p) (h:projB p = true):∀ (r:List D_Link) (s s':DSt),(∀ k ∈ r,k ∈ p.2.2.1) -> DInv p s -> dL (cyG p) p.2.1.length r s = some s' -> DInv p s'
 | [],s,s',_,hs,e => by cases e; exact hs
 | k :: r,s,s',hr,hs,e => by
  obtain ⟨g,eg,e2⟩:=Option.bind_eq_some_iff.1 (show (cyG p k).bind _ = some s' from e)
  obtain ⟨j,hj,ek⟩:=List.mem_iff_getElem.1 (hr k (List.mem_cons_self ..))
  obtain ⟨f,t,ef,et,hf,ht,hft,-⟩:=link_at hp h hj
  subst ek
  rw [if_pos (by rw [ef,et]; omega),ef,et,Int.toNat_natCast,Int.toNat_natCast] at e2
  exact dL_inv hp h r _ s' (fun k hk => hr k (List.mem_cons_of_mem _ hk)) (hs.add hj ef et hft eg) e2
theorem addN_id {s:DSt} {i k:Nat} {v:Int} (h1:s.2 i k = true) (h2:v <= s.1 i k):addN s i k v = s:=by
 unfold addN
 rw [if_neg]
 rintro (e | e)
 ·rw [h1] at e; cases e
 ·omega
/-- nothing can be added -/
def DClosed (n:Nat) (s:DSt):Prop:=∀ i j k,i < n -> j < n -> k < n -> s.2 i j = true -> s.2 j k = true -> s.2 i k = true /\ IntKind.i64.wrap (s.1 i j + s.1 j k) <= s.1 i k
theorem dK_id {n:Nat} {s:DSt} (h:DClosed n s) {j i:Nat} (hi:i < n) (hj:j < n):∀ c k,k + c <= n -> dK j i c k s = s
 | 0,k,_ => rfl
 | c + 1,k,hk => by
  have e:(if s.2 i j = true /\ s.2 j k = true then addN s i k (IntKind.i64.wrap (s.1 i j + s.1 j k)) else s) = s:=by
   by_cases hc:s.2 i j = true /\ s.2 j k = true
   ·rw [if_pos hc]
    obtain ⟨h1,h2⟩:=h i j k hi hj (by omega) hc.1 hc.2
    exact addN_id h1 h2
   ·rw [if_neg hc]
  show dK j i c (k + 1) (if s.2 i j = true /\ s.2 j k = true then addN s i k (IntKind.i64.wrap (s.1 i j + s.1 j k)) else s) = s
  rw [e]
  exact dK_id h hi hj c (k + 1) (by omega)
theorem dI_id {n:Nat} {s:DSt} (h:DClosed n s) {j:Nat} (hj:j < n):∀ c i,i + c <= n -> dI n j c i s = s
 | 0,i,_ => rfl
 | c + 1,i,hk => by
  show dI n j c (i + 1) (dK j i n 0 s) = s
  rw [dK_id h (by omega) hj n 0 (by omega)]
  exact dI_id h hj c (i + 1) (by omega)
theorem dJ_id {n:Nat} {s:DSt} (h:DClosed n s):∀ c j,j + c <= n -> dJ n c j s = s
 | 0,j,_ => rfl
 | c + 1,j,hk => by
  show dJ n c (j + 1) (dI n j n 0 s) = s
  rw [dI_id h (by omega) n 0 (by omega)]
  exact dJ_id h c (j + 1) (by omega)
theorem dN1_val (i:Nat):∀ (c k:Nat) (s:DSt),(dN1 i c k s).2 = s.2 /\ ∀ a b,(dN1 i c k s).1 a b = if (a = i /\ k <= b /\ b < k + c) /\ s.2 a b = false then -1000 else s.1 a b
 | 0,k,s => ⟨rfl,fun a b => by rw [if_neg (by omega)]; rfl⟩
 | c + 1,k,s => by
  obtain ⟨h1,h2⟩:=dN1_val i c (k + 1) (if s.2 i k = false then (upd2 s.1 i k (-1000),s.2) else s)
  have e2:(if s.2 i k = false then (upd2 s.1 i k (-1000),s.2) else s).2 = s.2:=by split <;> rfl
  refine ⟨h1.trans e2,fun a b => ?_⟩
  have e1:(if s.2 i k = false then (upd2 s.1 i k (-1000),s.2) else s).1 a b = if (a = i /\ b = k) /\ s.2 a b = false then -1000 else s.1 a b:=by
   by_cases hk:s.2 i k = false
   ·rw [if_pos hk]
    show upd2 s.1 i k (-1000) a b = _
    unfold upd2
    by_cases h:a = i /\ b = k
    ·rw [if_pos h]
     obtain ⟨rfl,rfl⟩:=h
     rw [if_pos ⟨⟨rfl,rfl⟩,hk⟩]
    ·rw [if_neg h,if_neg (fun e => h e.1)]
   ·rw [if_neg hk,if_neg]
    rintro ⟨⟨rfl,rfl⟩,e⟩
    exact hk e
  show (dN1 i c (k + 1) _).1 a b = _
  rw [h2 a b,e2,e1]
  by_cases hm:s.2 a b = false
  ·by_cases c1:a = i /\ k + 1 <= b /\ b < k + 1 + c
   ·rw [if_pos ⟨c1,hm⟩,if_pos ⟨⟨c1.1,by omega,by omega⟩,hm⟩]
   ·rw [if_neg (fun e => c1 e.1)]
    by_cases c2:a = i /\ b = k
    ·rw [if_pos ⟨c2,hm⟩,if_pos ⟨⟨c2.1,by omega,by omega⟩,hm⟩]
    ·rw [if_neg (fun e => c2 e.1),if_neg (fun e => by
      have h5:=e.1
      by_cases h6:b = k
      ·exact c2 ⟨h5.1,h6⟩
      ·exact c1 ⟨h5.1,by omega,by omega⟩)]
  ·rw [if_neg (fun e => hm e.2),if_neg (fun e => hm e.2),if_neg (fun e => hm e.2)]
theorem dN_val (n:Nat):∀ (c i:Nat) (s:DSt),(dN n c i s).2 = s.2 /\ ∀ a b,b < n -> (dN n c i s).1 a b = if (i <= a /\ a < i + c) /\ s.2 a b = false then -1000 else s.1 a b
 | 0,i,s => ⟨rfl,fun a b hb => by rw [if_neg (by omega)]; rfl⟩
 | c + 1,i,s => by
  obtain ⟨h1,h2⟩:=dN_val n c (i + 1) (dN1 i n 0 s)
  obtain ⟨h3,h4⟩:=dN1_val i n 0 s
  refine ⟨h1.trans h3,fun a b hb => ?_⟩
  show (dN n c (i + 1) _).1 a b = _
  rw [h2 a b hb,h3,h4 a b]
  by_cases hm:s.2 a b = false
  ·by_cases h5:i + 1 <= a /\ a < i + 1 + c
   ·rw [if_pos ⟨h5,hm⟩,if_pos ⟨⟨by omega,by omega⟩,hm⟩]
   ·rw [if_neg (fun e => h5 e.1)]
    by_cases h6:a = i
    ·rw [if_pos ⟨⟨h6,by omega,by omega⟩,hm⟩,if_pos ⟨⟨by omega,by omega⟩,hm⟩]
    ·rw [if_neg (fun e => h6 e.1.1),if_neg (fun e => by have:=e.1; omega)]
  ·rw [if_neg (fun e => hm e.2),if_neg (fun e => hm e.2),if_neg (fun e => hm e.2)]
/-- what stands in the square at the end -/
theorem dN_cell {n:Nat} (s:DSt) {a b:Nat} (ha:a < n) (hb:b < n):(dN n n 0 s).1 a b = if s.2 a b = true then s.1 a b else -1000:=by
 rw [(dN_val n n 0 s).2 a b hb]
 cases h:s.2 a b
 ·rw [if_pos ⟨by omega,rfl⟩,if_neg (by simp)]
 ·rw [if_neg (by simp),if_pos rfl]
/-- the distances of one or two activities -/
structure Dst (p:Aa) (f:Nat -> Nat -> Int):Prop where
 d:∀ i,i < p.2.1.length -> f i i = 0
 o:∀ i k:Nat,i < p.2.1.length -> k < p.2.1.length -> i ≠ k -> f i k = -1000 \/ ∃ (j:Nat) (hj:j < p.2.2.1.length),p.2.2.1[j].1 = (i:Int) /\ p.2.2.1[j].2.1 = (k:Int) /\ cyG p p.2.2.1[j] = some (f i k)
theorem Dist_V {p:Aa} (hp:Af 1099511627776 p) (h:projB p = true) (h2:p.2.1.length <= 2) (hg:∀ k ∈ p.2.2.1,∀ g,cyG p k = some g -> -100 <= g /\ g <= 100) (ho:p.2.1.length = 2 -> Opp p) (hc:∀ u,Bh (p,u) () = some ([],())) :
  ∃ f:Nat -> Nat -> Int,(∀ u,Dg (p,u) () = some (matL p.2.1.length f,())) /\ Dst p f:=by
 have h6:=(Me h).2
 have hk12:=(Mb h).2.2
 obtain ⟨s,e⟩:=dL_T hp h p.2.2.1 Go.Proofs.d0 (fun k hk => hk)
 have hI:=dL_inv hp h _ _ _ (fun k hk => hk) (d0_inv p) e
 have hcl:DClosed p.2.1.length s:=fun i j k hi hj hk m1 m2 => by
  by_cases e1:i = j
  ·subst e1
   rw [(hI.d i).2]
   refine ⟨m2,?_⟩
   by_cases e2:i = k
   ·subst e2
    rw [(hI.d i).2,Jr (by omega) (by omega)]
    omega
   ·obtain ⟨j,hj,-,-,eg⟩:=hI.o i k e2 m2
    have:=hg _ (List.getElem_mem hj) _ eg
    rw [Jr (by omega) (by omega)]
    omega
  ·obtain ⟨x,hx,x1,x2,eg⟩:=hI.o i j e1 m1
   have q1:=hg _ (List.getElem_mem hx) _ eg
   by_cases e2:j = k
   ·subst e2
    rw [(hI.d j).2]
    refine ⟨m1,?_⟩
    rw [Jr (by omega) (by omega)]
    omega
   ·obtain ⟨y,hy,y1,y2,eg2⟩:=hI.o j k e2 m2
    have q2:=hg _ (List.getElem_mem hy) _ eg2
    have e3:k = i:=by omega
    subst e3
    have:=ho (by omega) x y hx hy (by rw [x2,y1]) (by rw [x1,y2]) _ _ eg eg2
    rw [(hI.d k).2,(hI.d k).1,Jr (by omega) (by omega)]
    exact ⟨rfl,this⟩
 refine ⟨(dN p.2.1.length p.2.1.length 0 s).1,fun u => ?_,⟨fun i hi => ?_,fun i k hi hk hik => ?_⟩⟩
 ·show ((Ao (p,()) ()).map (·.1)).bind (fun ok => if ok = true then ((Bh (p,()) ()).map (·.1)).bind (fun c => if c = [] then (if 1000 <= p.2.2.1.length \/ 1000 <= p.2.1.length then none else
   (dL (cyG p) p.2.1.length p.2.2.1 Go.Proofs.d0).map fun s => (matL p.2.1.length (dN p.2.1.length p.2.1.length 0 (dJ p.2.1.length p.2.1.length 0 s)).1,())) else some ([],())) else some ([],())) = _
  rw [Ay p () hp,h,hc]
  simp only [Option.map_some,Ab,if_true]
  rw [if_neg (by omega),e,Option.map_some,dJ_id hcl p.2.1.length 0 (by omega)]
 ·rw [dN_cell s hi hi,if_pos (hI.d i).1,(hI.d i).2]
 ·rw [dN_cell s hi hk]
  cases hm:s.2 i k
  ·exact .inl (by rw [if_neg (by simp)])
  ·rw [if_pos rfl]
   exact .inr (hI.o i k hik hm)
end Go.Proofs.YteggmejnpcfalaaGreat
