/-
  Plain laws: numbers in a row, lists that hold a number, sets, domains (several small texts in one). Condition: no list is longer than 2 to the 40.
-/
import Derived.Test.YteggmejnpcfalaaGreatl3LProjM
import Derived.Test.YteggmejnpcfalaaGreatN37
namespace Go.Proofs.YteggmejnpcfalaaGreat
open Go.Abs
set_option linter.unusedVariables false
set_option linter.unusedSimpArgs false
/-- the names that are given, by place -/
def genName:Nat -> List UInt8
 | 0 => [97]
 | 1 => [98]
 | 2 => [99]
 | 3 => [100]
 | 4 => [101,49]
 | _ => [102]
theorem St:∀ i,i < 6 -> nameB (genName i) = true /\ (genName i).length <= 2
 | 0,_ => ⟨by decide,by decide⟩
 | 1,_ => ⟨by decide,by decide⟩
 | 2,_ => ⟨by decide,by decide⟩
 | 3,_ => ⟨by decide,by decide⟩
 | 4,_ => ⟨by decide,by decide⟩
 | 5,_ => ⟨by decide,by decide⟩
 | n + 6,h => absurd h (by omega)
theorem Zc:∀ i,i < 6 -> ∀ j,j < i -> eqS (genName j) (genName i) = false:=by decide
structure GenM (r s:Nat) (m:D_Mode):Prop where
 d:1 <= m.1 /\ m.1 <= 4
 ul:m.2.1.length = r
 u:∀ x ∈ m.2.1,0 <= x /\ x <= 2
 cl:m.2.2.1.length = s
 c:∀ x ∈ m.2.2.1,0 <= x /\ x <= 2
structure GenA (r s i:Nat) (a:Ad):Prop where
 name:a.1 = genName i
 fam:0 <= a.2.1 /\ a.2.1 <= 1
 ml:1 <= a.2.2.1.length /\ a.2.2.1.length <= 2
 m:∀ m ∈ a.2.2.1,GenM r s m
structure GenR (x:Ai):Prop where
 steps:stepsB x.1 = true
 sl:x.1.length <= 3
 setup:x.2.1 = [] \/ (x.2.1.length = 4 /\ ∀ row ∈ x.2.1,row.length = 4 /\ ∀ n ∈ row,0 <= n /\ n <= 2)
structure GenP (most:Nat) (p:Aa):Prop where
 dl:1 <= p.1 /\ p.1 <= 23
 rl:1 <= p.2.2.2.1.length /\ p.2.2.2.1.length <= 2
 r:∀ x ∈ p.2.2.2.1,GenR x
 sl:p.2.2.2.2.1.length <= 1
 s:∀ x ∈ p.2.2.2.2.1,0 <= x /\ x <= 5
 al:1 <= p.2.1.length /\ p.2.1.length <= most
 a:∀ i (hi:i < p.2.1.length),GenA p.2.2.2.1.length p.2.2.2.2.1.length i p.2.1[i]
 kl:p.2.2.1.length <= 3
 k:∀ k ∈ p.2.2.1,linkB (p.2.1.length:Int) k = true
theorem GenM.ok {r s:Nat} {m:D_Mode} (h:GenM r s m):modeB m (r:Int) (s:Int) = true:=by
 unfold modeB
 simp only [Bool.and_eq_true,List.all_eq_true]
 refine ⟨⟨inB_iff.2 (by have:=h.d; omega),fun x hx => inB_iff.2 (by have:=h.u x hx; omega),?_⟩,fun x hx => inB_iff.2 (by have:=h.c x hx; omega),?_⟩
 ·rw [eqZ_dec,decide_eq_true_eq,h.ul]
 ·rw [eqZ_dec,decide_eq_true_eq,h.cl]
theorem GenR.ok {x:Ai} (h:GenR x):resrB x = true:=by
 unfold resrB
 simp only [Bool.and_eq_true,List.all_eq_true,Bool.or_eq_true]
 rcases h.setup with e | ⟨e1,e2⟩
 ·refine ⟨fun row hr => ?_,h.steps,.inl ?_⟩
  ·rw [e] at hr; simp at hr
  ·rw [e]; rfl
 ·refine ⟨fun row hr => ?_,h.steps,.inr ?_⟩
  ·unfold rowB
   simp only [Bool.and_eq_true,List.all_eq_true]
   obtain ⟨f1,f2⟩:=e2 row hr
   refine ⟨by rw [eqZ_dec,decide_eq_true_eq,f1]; rfl,fun n hn => inB_iff.2 (by have:=f2 n hn; omega)⟩
  ·rw [eqZ_dec,decide_eq_true_eq,e1]; rfl
theorem GenP.ok {most:Nat} {p:Aa} (h:GenP most p) (hm:most <= 6):projB p = true:=by
 unfold projB
 simp only [Bool.and_eq_true,List.all_eq_true]
 have hal:=h.al
 have hrl:=h.rl
 have hsl:=h.sl
 have hkl:=h.kl
 have hdl:=h.dl
 have lt_f:∀ {x y:Int},y <= x -> notB (ltZ x y) = true:=fun {x y} hxy => by
  have:ltZ x y = false:=by rw [Bool.eq_false_iff,Ne,ltZ_iff]; omega
  rw [this]; rfl
 refine ⟨⟨⟨⟨⟨⟨⟨⟨inB_iff.2 (by omega),inB_iff.2 (by rw [lenI_eq]; omega)⟩,lt_f (by rw [lenI_eq]; omega)⟩,lt_f (by rw [lenI_eq]; omega)⟩,lt_f (by rw [lenI_eq]; omega)⟩,fun i hi => ?_⟩,fun x hx => (h.r x hx).ok⟩,fun x hx => inB_iff.2 (by have:=h.s x hx; omega)⟩,fun k hk => h.k k hk⟩
 have hi':i < p.2.1.length:=by simpa using hi
 have ha:=h.a i hi'
 unfold actI
 rw [List.getElem?_eq_getElem hi']
 simp only [Bool.and_eq_true]
 refine ⟨?_,?_⟩
 ·unfold actB
  simp only [Bool.and_eq_true,List.all_eq_true]
  refine ⟨fun m hm => (ha.m m hm).ok,⟨?_,inB_iff.2 (by have:=ha.fam; omega)⟩,inB_iff.2 (by have:=ha.ml; omega)⟩
  rw [ha.name]
  exact (St i (by omega)).1
 ·have hf:p.2.1.findIdx? (fun b => eqS b.1 p.2.1[i].1) = some i:=by
   rw [List.findIdx?_eq_some_iff_getElem]
   refine ⟨hi',Acv _,fun j hj => ?_⟩
   have hj':j < p.2.1.length:=by omega
   rw [(h.a j hj').name,ha.name,Zc i (by omega) j hj]
   simp
  unfold idxOf
  rw [hf]
  exact Cm _
theorem GenP.sm {most:Nat} {p:Aa} (h:GenP most p) (hm:most <= 6) {B:Nat} (hB:8 <= B):Af B p:=by
 have hal:=h.al
 have hrl:=h.rl
 have hsl:=h.sl
 have hkl:=h.kl
 refine ⟨trivial,⟨by omega,fun a ha => ?_⟩,⟨by omega,fun k hk => ⟨trivial,trivial,trivial,trivial,trivial⟩⟩,⟨by omega,fun x hx => ?_⟩,⟨by omega,fun _ _ => trivial⟩,trivial⟩
 ·obtain ⟨i,hi,rfl⟩:=List.mem_iff_getElem.1 ha
  have g:=h.a i hi
  refine ⟨?_,trivial,⟨by have:=g.ml; omega,fun m hm => ⟨trivial,⟨by have:=(g.m m hm).ul; omega,fun _ _ => trivial⟩,⟨by have:=(g.m m hm).cl; omega,fun _ _ => trivial⟩,trivial⟩⟩,trivial⟩
  rw [g.name]
  have:=(St i (by omega)).2
  omega
 ·have g:=h.r x hx
  refine ⟨⟨by have:=g.sl; omega,fun _ _ => ⟨trivial,trivial,trivial⟩⟩,⟨?_,fun row hr => ⟨?_,fun _ _ => trivial⟩⟩,trivial⟩
  ·rcases g.setup with e | ⟨e,-⟩
   ·rw [e]; simp
   ·rw [e]; omega
  ·rcases g.setup with e | ⟨-,e⟩
   ·rw [e] at hr; simp at hr
   ·have:=(e row hr).1; omega
open Go.Abs
set_option linter.unusedVariables false
set_option linter.unusedSimpArgs false
/-- a generator's cursor: where it stands in its list -/
def CurOk (c:Ag):Prop:=0 <= c.2.1 /\ c.1.length <= 1048576 /\ c.2.1 <= 1048576
theorem Zl (c:Ag) (h:CurOk c):∃ k:Nat,k <= 255 /\ ∃ c',CurOk c' /\ Ea (c,()) () = some ((k:Int),c'):=by
 obtain ⟨b,i,hh,u⟩:=c
 obtain ⟨h1,h2,h3⟩:=h
 simp only at h1 h2 h3
 unfold Ea
 simp only
 obtain ⟨v0,e0⟩:=Yo (addZ .i64 (mulZ .i64 hh 6364136223846793005) 1442695040888963407) 33
 obtain ⟨v1,e1⟩:=Yo (addZ .i64 (mulZ .i64 hh 6364136223846793005) 1442695040888963407) 45
 have e0':shiftI false .i64 (addZ .i64 (mulZ .i64 hh 6364136223846793005) 1442695040888963407) 33 = some v0:=e0
 have e1':shiftI false .i64 (addZ .i64 (mulZ .i64 hh 6364136223846793005) 1442695040888963407) 45 = some v1:=e1
 rw [e0',Option.bind_some,e1',Option.bind_some]
 by_cases hlt:ltZ i (lenI b) = true
 ·rw [if_pos hlt]
  have hl:i < (b.length:Int):=by rw [ltZ_iff,lenI_eq] at hlt; exact hlt
  obtain ⟨j,rfl⟩:∃ j:Nat,i = (j:Int):=⟨i.toNat,by omega⟩
  have hj:j < b.length:=by omega
  have hg:getI b (j:Int) = some b[j]:=by
   simp [getI,hj]
  rw [hg]
  simp only [Option.bind_some]
  obtain ⟨k,hk,e⟩:=and255 (addZ .i64 (bitsI .and .i64 (bitsI .xor .i64 v0 v1) 255) (wrapI .i64 b[j]))
  refine ⟨k,hk,_,⟨?_,?_,?_⟩,by rw [e]⟩
  ·have:addZ .i64 (j:Int) 1 = (j:Int) + 1:=wrap64 (by omega) (by omega)
   simp only [this]; omega
  ·exact h2
  ·have:addZ .i64 (j:Int) 1 = (j:Int) + 1:=wrap64 (by omega) (by omega)
   simp only [this]; omega
 ·rw [if_neg hlt]
  simp only [Option.bind_some]
  obtain ⟨k,hk,e⟩:=and255 (bitsI .xor .i64 v0 v1)
  exact ⟨k,hk,_,⟨h1,h2,h3⟩,by rw [e]⟩
/-- a number below n, n at least 1 and at most 256 -/
theorem A6 (c:Ag) (h:CurOk c) (n:Nat) (h0:0 < n) (hn:n <= 256):∃ k:Nat,k < n /\ ∃ c',CurOk c' /\ Ah (c,((n:Int),())) () = some ((k:Int),c'):=by
 unfold Ah
 have e1:leZ (n:Int) 0 = false:=by rw [Bool.eq_false_iff,Ne,leZ_iff]; omega
 have e2:leZ (n:Int) 256 = true:=by rw [leZ_iff]; omega
 simp only [e1,e2,if_true,Bool.false_eq_true,if_false]
 obtain ⟨k,hk,c',hc',e⟩:=Zl c h
 rw [e]
 simp only [Option.bind_some,Adl k n h0]
 exact ⟨k % n,Nat.mod_lt _ h0,c',hc',rfl⟩
theorem Nn (c:Ag) (h:CurOk c) (n:Nat) (h0:0 < n) (hn:n <= 256):∃ b:Bool,∃ c',CurOk c' /\ Cr (c,((n:Int),())) () = some (b,c'):=by
 unfold Cr
 obtain ⟨k,hk,c',hc',e⟩:=A6 c h n h0 hn
 simp only [e,Option.bind_some]
 exact ⟨_,c',hc',rfl⟩
/-- the cursor at the start -/
theorem Abk (b:List Int) (hb:b.length <= 1048576):∃ c',CurOk c' /\ Mq (b,()) () = some (c',()):=by
 unfold Mq
 obtain ⟨o,ho,hR⟩:=Cl (A:=(Int × ((List Int) × (Int × Unit)))) (F:=L4) b.length
  (fun j s => s.1 = (j:Int) /\ s.2.1 = b)
  (fun o => ∃ bo i h,o = .exit (.inl (bo,(i,(b,(h,())))))) (fun j s hj hI => by
   obtain ⟨i,b',h,u⟩:=s
   obtain ⟨rfl,rfl⟩:=hI
   unfold L4
   simp only
   by_cases h1:ltZ (j:Int) (lenI b') = true
   ·rw [if_pos h1]
    simp only [Option.bind_some]
    by_cases h2:ltZ (j:Int) 4000 = true
    ·rw [if_pos h2]
     have hl:j < b'.length:=by rw [ltZ_iff,lenI_eq] at h1; omega
     have hg:getI b' (j:Int) = some b'[j]:=by simp [getI,hl]
     rw [hg]
     refine ⟨_,rfl,hl,?_,rfl⟩
     show addZ .i64 (j:Int) 1 = _
     rw [addZ64 (by omega) (by omega)]; omega
    ·rw [if_neg h2]
     exact ⟨_,rfl,_,_,_,rfl⟩
   ·rw [if_neg h1]
    simp only [Option.bind_some,Bool.false_eq_true,if_false]
    exact ⟨_,rfl,_,_,_,rfl⟩)
  (s:=(0,(b,((addZ .i64 1950 (lenI b)),())))) ⟨rfl,rfl⟩ (Nat.lt_of_le_of_lt hb (by decide))
 obtain ⟨bo,i,h,rfl⟩:=hR
 simp only
 rw [ho]
 exact ⟨_,⟨Int.le_refl 0,hb,(by show (0:Int) <= 1048576; decide)⟩,rfl⟩
theorem W6 (l:List D_Step) (s:D_Step) (hl:1 <= l.length) (h7:l.length <= 7) (h:stepsB l = true) (h1:0 <= s.1 /\ s.1 <= 60) (h2:0 <= s.2.1 /\ s.2.1 <= 20) (hlt:(l[l.length - 1]'(by omega)).1 < s.1):stepsB (l ++ [s]) = true:=by
 unfold stepsB at h ⊢
 simp only [Bool.and_eq_true,List.all_eq_true,List.mem_range] at h ⊢
 obtain ⟨⟨ha,hf⟩,-⟩:=h
 refine ⟨⟨fun i hi => ?_,?_⟩,inB_iff.2 (by simp; omega)⟩
 ·simp only [List.length_append,List.length_singleton] at hi
  by_cases hin:i < l.length
  ·have:=ha i hin
   unfold stepI at this ⊢
   rw [List.getElem?_append_left hin]
   cases i with
   | zero => exact this
   | succ j =>
    have e:(l ++ [s])[j]? = l[j]?:=List.getElem?_append_left (by omega)
    simp only [e] at this ⊢
    exact this
  ·obtain rfl:i = l.length:=by omega
   unfold stepI
   rw [List.getElem?_append_right (Nat.le_refl _)]
   simp only [Nat.sub_self,List.getElem?_cons_zero,Bool.and_eq_true]
   refine ⟨⟨inB_iff.2 h1,inB_iff.2 h2⟩,?_⟩
   obtain ⟨j,hj⟩:∃ j,l.length = j + 1:=⟨l.length - 1,by omega⟩
   have hjl:j < l.length:=by omega
   rw [hj]
   simp only
   rw [List.getElem?_append_left hjl,List.getElem?_eq_getElem hjl]
   have e:l[l.length - 1] = l[j]:=by congr 1; omega
   rw [e] at hlt
   have:leZ s.1 l[j].1 = false:=by rw [Bool.eq_false_iff,Ne,leZ_iff]; omega
   simp only [this]; rfl
 ·unfold firstB at hf ⊢
  rw [List.getElem?_append_left (by omega)]
  exact hf
/-- steps that are drawn, j of them behind the first -/
def StG (j:Nat) (l:List D_Step):Prop:=∃ h:l.length = j + 1,stepsB l = true /\ 0 <= (l[j]'(by omega)).1 /\ (l[j]'(by omega)).1 <= 9 * j
theorem Yz (c:Ag) (h:CurOk c):∃ l c',stepsB l = true /\ l.length <= 3 /\ CurOk c' /\ Lv (c,()) () = some (l,c'):=by
 unfold Lv
 obtain ⟨k0,hk0,c0,hc0,e0⟩:=A6 c h 4 (by omega) (by omega)
 obtain ⟨k1,hk1,c1,hc1,e1⟩:=A6 c0 hc0 6 (by omega) (by omega)
 have e0':Ah (c,(4,())) () = some ((k0:Int),c0):=e0
 have e1':Ah (c0,(6,())) () = some ((k1:Int),c1):=e1
 simp only [e0',Option.bind_some,e1']
 have eq:quoZ .i64 (k1:Int) 2 = some ((k1 / 2:Nat):Int):=by
  unfold quoZ
  rw [if_neg (by decide)]
  have:((k1:Int).tdiv 2) = ((k1 / 2:Nat):Int):=rfl
  rw [this]
  exact congrArg some (wrap64 (by omega) (by omega))
 rw [eq,Option.bind_some]
 obtain ⟨m,hm⟩:∃ m,m = k1 / 2:=⟨_,rfl⟩
 have hm2:m <= 2:=by omega
 rw [<- hm]
 have hcap:addZ .i64 1 (k0:Int) = 1 + (k0:Int):=addZ64 (by omega) (by omega)
 rw [hcap]
 have hst:stepsB [((0:Int),(1 + (k0:Int),()))] = true:=by
  have h1:inB (1 + (k0:Int)) 0 20 = true:=inB_iff.2 (by omega)
  unfold stepsB
  simp [stepI,firstB,h1]
  try decide
 obtain ⟨o,ho,hR⟩:=Cl (A:=(Int × ((List D_Step) × (Ag × Unit)))) (F:=K9) m
  (fun j s => s.1 = (m:Int) - j /\ StG j s.2.1 /\ CurOk s.2.2.1)
  (fun o => ∃ bo i l c',o = .exit (.inl (bo,(i,(l,(c',()))))) /\ stepsB l = true /\ l.length <= 3 /\ CurOk c') (fun j s hj hI => by
   obtain ⟨i,l,cc,u⟩:=s
   obtain ⟨hi,⟨hl,hs,ha0,ha1⟩,hc⟩:=hI
   simp only at hi hl hs ha0 ha1 hc
   unfold K9
   simp only
   by_cases hlt:ltZ 0 i = true
   ·rw [if_pos hlt]
    have hjm:j < m:=by rw [ltZ_iff] at hlt; omega
    have hsub:subZ .i64 (lenI l) 1 = (j:Int):=by
     rw [lenI_eq,subZ64 (by omega) (by omega)]; omega
    have hjl:j < l.length:=by omega
    have hg:getI l (j:Int) = some l[j]:=by simp [getI,hjl]
    obtain ⟨a,ha,c2,hc2,e2⟩:=A6 cc hc 9 (by omega) (by omega)
    obtain ⟨b,hb,c3,hc3,e3⟩:=A6 c2 hc2 5 (by omega) (by omega)
    have e2':Ah (cc,(9,())) () = some ((a:Int),c2):=e2
    have e3':Ah (c2,(5,())) () = some ((b:Int),c3):=e3
    simp only [hsub,hg,Option.bind_some,e2',e3']
    have hx:addZ .i64 (addZ .i64 l[j].1 1) (a:Int) = l[j].1 + 1 + a:=by
     rw [addZ64 (x:=l[j].1) (by omega) (by omega),addZ64 (by omega) (by omega)]
    rw [hx,addI_ok (by simp only [List.length_singleton]; exact Nat.le_trans (show l.length + 1 <= 4 by omega) (by decide)),Option.bind_some]
    refine ⟨_,rfl,hjm,?_,⟨?_,?_,?_,?_⟩,hc3⟩
    ·simp only
     rw [hi,subZ64 (by omega) (by omega)]; omega
    ·simp; omega
    ·refine W6 l _ (by omega) (by omega) hs ⟨?_,?_⟩ ⟨?_,?_⟩ ?_
     ·simp only; omega
     ·simp only; omega
     ·simp only; omega
     ·simp only; omega
     ·have e:l[l.length - 1] = l[j]:=by congr 1; omega
      rw [e]; simp only; omega
    ·simp only
     rw [List.getElem_append_right (by omega)]
     simp only [hl,Nat.sub_self,List.getElem_cons_zero]; omega
    ·simp only
     rw [List.getElem_append_right (by omega)]
     simp only [hl,Nat.sub_self,List.getElem_cons_zero]; omega
   ·rw [if_neg hlt]
    exact ⟨_,rfl,_,_,_,_,rfl,hs,by omega,hc⟩)
  (s:=((m:Int),(((0,((1 + (k0:Int)),())) :: []),(c1,())))) ⟨by simp,⟨rfl,hst,by simp,by simp⟩,hc1⟩ (Nat.lt_of_le_of_lt hm2 (by decide))
 obtain ⟨bo,i,l,c',rfl,h1,h2,h3⟩:=hR
 rw [ho]
 exact ⟨l,c',h1,h2,h3,rfl⟩
open Go.Abs
set_option linter.unusedVariables false
set_option linter.unusedSimpArgs false
def Row4 (j:Nat) (r:List Int):Prop:=r.length = j /\ ∀ n ∈ r,0 <= n /\ n <= 2
theorem Row4.snoc {j:Nat} {r:List Int} (h:Row4 j r) {x:Int} (hx:0 <= x /\ x <= 2):Row4 (j + 1) (r ++ [x]):=by
 refine ⟨by simp [h.1],fun n hn => ?_⟩
 rcases List.mem_append.1 hn with hn | hn
 ·exact h.2 n hn
 ·rw [List.mem_singleton.1 hn]; exact hx
theorem R4 (out:List (List Int)) (i:Int) (c:Ag) (h:CurOk c):∃ bo k row c',loopN (A:=(Int × ((List (List Int)) × ((List Int) × (Int × (Ag × Unit)))))) big Ii (0,(out,([],(i,(c,()))))) = some (.exit (.inl (bo,(k,(out,(row,(i,(c',())))))))) /\ Row4 4 row /\ CurOk c':=by
 obtain ⟨o,ho,hR⟩:=Cl (A:=(Int × ((List (List Int)) × ((List Int) × (Int × (Ag × Unit)))))) (F:=Ii) 4
  (fun j s => s.1 = (j:Int) /\ s.2.1 = out /\ Row4 j s.2.2.1 /\ s.2.2.2.1 = i /\ CurOk s.2.2.2.2.1)
  (fun o => ∃ bo k row c',o = .exit (.inl (bo,(k,(out,(row,(i,(c',()))))))) /\ Row4 4 row /\ CurOk c') (fun j s hj hI => by
   obtain ⟨k,ou,row,i',cc,u⟩:=s
   obtain ⟨rfl,rfl,hr,rfl,hc⟩:=hI
   simp only at hr hc
   unfold Ii
   simp only
   by_cases hlt:ltZ (j:Int) 4 = true
   ·rw [if_pos hlt]
    have hj4:j < 4:=by rw [ltZ_iff] at hlt; omega
    have hadd:addZ .i64 (j:Int) 1 = ((j + 1:Nat):Int):=by rw [addZ64 (by omega) (by omega)]; omega
    have hroom:∀ x:Int,addI row (x :: []) = some (row ++ [x]):=fun x => addI_ok (by simp only [List.length_singleton,hr.1]; exact Nat.le_trans (show j + 1 <= 4 by omega) (by decide))
    by_cases hne:notB (eqZ i' (j:Int)) = true
    ·rw [if_pos hne]
     obtain ⟨a,ha,c2,hc2,e2⟩:=A6 cc hc 3 (by omega) (by omega)
     have e2':Ah (cc,(3,())) () = some ((a:Int),c2):=e2
     simp only [e2',Option.bind_some,hroom,hadd]
     exact ⟨_,rfl,hj4,rfl,rfl,hr.snoc ⟨by omega,by omega⟩,rfl,hc2⟩
    ·rw [if_neg hne]
     simp only [Option.bind_some,hroom,hadd]
     exact ⟨_,rfl,hj4,rfl,rfl,hr.snoc ⟨by omega,by omega⟩,rfl,hc⟩
   ·rw [if_neg hlt]
    have:j = 4:=by
     have:¬ (j:Int) < 4:=fun hh => hlt (ltZ_iff.2 hh)
     omega
    subst this
    exact ⟨_,rfl,_,_,_,_,rfl,hr,hc⟩)
  (s:=(0,(out,([],(i,(c,())))))) ⟨rfl,rfl,⟨rfl,by simp⟩,rfl,h⟩ (by decide)
 obtain ⟨bo,k,row,c',rfl,h1,h2⟩:=hR
 exact ⟨bo,k,row,c',ho,h1,h2⟩
theorem Xp (c:Ag) (h:CurOk c):∃ l c',(l.length = 4 /\ ∀ row ∈ l,row.length = 4 /\ ∀ n ∈ row,0 <= n /\ n <= 2) /\ CurOk c' /\ Kz (c,()) () = some (l,c'):=by
 unfold Kz
 obtain ⟨o,ho,hR⟩:=Cl (A:=(Int × ((List (List Int)) × (Ag × Unit)))) (F:=Ks) 4
  (fun j s => s.1 = (j:Int) /\ (s.2.1.length = j /\ ∀ row ∈ s.2.1,Row4 4 row) /\ CurOk s.2.2.1)
  (fun o => ∃ bo i l c',o = .exit (.inl (bo,(i,(l,(c',()))))) /\ (l.length = 4 /\ ∀ row ∈ l,Row4 4 row) /\ CurOk c') (fun j s hj hI => by
   obtain ⟨i,l,cc,u⟩:=s
   obtain ⟨rfl,⟨hl,hr⟩,hc⟩:=hI
   simp only at hl hr hc
   unfold Ks
   simp only
   by_cases hlt:ltZ (j:Int) 4 = true
   ·rw [if_pos hlt]
    have hj4:j < 4:=by rw [ltZ_iff] at hlt; omega
    have hadd:addZ .i64 (j:Int) 1 = ((j + 1:Nat):Int):=by rw [addZ64 (by omega) (by omega)]; omega
    obtain ⟨bo,k,row,c',e,h1,h2⟩:=R4 l (j:Int) cc hc
    have hroom:addI l (row :: []) = some (l ++ [row]):=addI_ok (by simp only [List.length_singleton,hl]; exact Nat.le_trans (show j + 1 <= 4 by omega) (by decide))
    simp only [e,Option.bind_some,hroom,hadd]
    refine ⟨_,rfl,hj4,rfl,⟨by simp [hl],fun r hm => ?_⟩,h2⟩
    rcases List.mem_append.1 hm with hm | hm
    ·exact hr r hm
    ·rw [List.mem_singleton.1 hm]; exact h1
   ·rw [if_neg hlt]
    have:j = 4:=by
     have:¬ (j:Int) < 4:=fun hh => hlt (ltZ_iff.2 hh)
     omega
    subst this
    exact ⟨_,rfl,_,_,_,_,rfl,⟨hl,hr⟩,hc⟩)
  (s:=(0,([],(c,())))) ⟨rfl,⟨rfl,by simp⟩,h⟩ (by decide)
 obtain ⟨bo,i,l,c',rfl,⟨h1,h2⟩,h3⟩:=hR
 simp only [ho,Option.bind_some]
 exact ⟨l,c',⟨h1,fun r hr => h2 r hr⟩,h3,rfl⟩
open Go.Abs
set_option linter.unusedVariables false
set_option linter.unusedSimpArgs false
theorem Za (c:Ag):∀ i:Nat,i < 6 -> M4 (c,((i:Int),())) () = some (genName i,())
 | 0,_ => rfl
 | 1,_ => rfl
 | 2,_ => rfl
 | 3,_ => rfl
 | 4,_ => rfl
 | 5,_ => rfl
 | n + 6,h => absurd h (by omega)
theorem Um (d:Int) (cs:List Int) (k:Int) (n:Nat) (hn:n <= 2) (st:Int) (a a2:Ad) (c:Ag) (h:CurOk c) :
  ∃ bo u c',loopN (A:=(D_Mode × (Int × (Int × (Int × (Ad × (Ad × (Ag × Unit)))))))) big Je ((d,([],(cs,()))),(k,((n:Int),(st,(a,(a2,(c,()))))))) = some (.exit (.inl (bo,((d,(u,(cs,()))),(k,((n:Int),(st,(a,(a2,(c',()))))))))) ) /\ Row4 n u /\ CurOk c':=by
 obtain ⟨o,ho,hR⟩:=Cl (A:=(D_Mode × (Int × (Int × (Int × (Ad × (Ad × (Ag × Unit)))))))) (F:=Je) n
  (fun j s => ∃ u cc,s = ((d,(u,(cs,()))),(k,((n:Int),(st,(a,(a2,(cc,()))))))) /\ Row4 j u /\ CurOk cc)
  (fun o => ∃ bo u c',o = .exit (.inl (bo,((d,(u,(cs,()))),(k,((n:Int),(st,(a,(a2,(c',()))))))))) /\ Row4 n u /\ CurOk c') (fun j s hj hI => by
   obtain ⟨u,cc,rfl,hr,hc⟩:=hI
   unfold Je
   simp only
   by_cases hlt:ltZ (lenI u) (n:Int) = true
   ·rw [if_pos hlt]
    have hjn:j < n:=by rw [ltZ_iff,lenI_eq,hr.1] at hlt; omega
    obtain ⟨x,hx,c2,hc2,e2⟩:=A6 cc hc 3 (by omega) (by omega)
    have e2':Ah (cc,(3,())) () = some ((x:Int),c2):=e2
    have hroom:addI u ((x:Int) :: []) = some (u ++ [(x:Int)]):=addI_ok (by simp only [List.length_singleton,hr.1]; exact Nat.le_trans (show j + 1 <= 4 by omega) (by decide))
    simp only [e2',Option.bind_some,hroom]
    exact ⟨_,rfl,hjn,_,_,rfl,hr.snoc ⟨by omega,by omega⟩,hc2⟩
   ·rw [if_neg hlt]
    have:j = n:=by
     have:¬ (j:Int) < n:=fun hh => hlt (ltZ_iff.2 (by rw [lenI_eq,hr.1]; exact hh))
     omega
    subst this
    exact ⟨_,rfl,_,_,_,rfl,hr,hc⟩)
  (s:=((d,([],(cs,()))),(k,((n:Int),(st,(a,(a2,(c,())))))))) ⟨_,_,rfl,⟨rfl,by simp⟩,h⟩ (Nat.lt_of_le_of_lt hn (by decide))
 obtain ⟨bo,u,c',rfl,h1,h2⟩:=hR
 exact ⟨bo,u,c',ho,h1,h2⟩
theorem Ud (d:Int) (us:List Int) (k:Int) (rs:Int) (n:Nat) (hn:n <= 2) (a a2:Ad) (c:Ag) (h:CurOk c) :
  ∃ bo u c',loopN (A:=(D_Mode × (Int × (Int × (Int × (Ad × (Ad × (Ag × Unit)))))))) big I0 ((d,(us,([],()))),(k,(rs,((n:Int),(a,(a2,(c,()))))))) = some (.exit (.inl (bo,((d,(us,(u,()))),(k,(rs,((n:Int),(a,(a2,(c',()))))))))) ) /\ Row4 n u /\ CurOk c':=by
 obtain ⟨o,ho,hR⟩:=Cl (A:=(D_Mode × (Int × (Int × (Int × (Ad × (Ad × (Ag × Unit)))))))) (F:=I0) n
  (fun j s => ∃ u cc,s = ((d,(us,(u,()))),(k,(rs,((n:Int),(a,(a2,(cc,()))))))) /\ Row4 j u /\ CurOk cc)
  (fun o => ∃ bo u c',o = .exit (.inl (bo,((d,(us,(u,()))),(k,(rs,((n:Int),(a,(a2,(c',()))))))))) /\ Row4 n u /\ CurOk c') (fun j s hj hI => by
   obtain ⟨u,cc,rfl,hr,hc⟩:=hI
   unfold I0
   simp only
   by_cases hlt:ltZ (lenI u) (n:Int) = true
   ·rw [if_pos hlt]
    have hjn:j < n:=by rw [ltZ_iff,lenI_eq,hr.1] at hlt; omega
    obtain ⟨x,hx,c2,hc2,e2⟩:=A6 cc hc 3 (by omega) (by omega)
    have e2':Ah (cc,(3,())) () = some ((x:Int),c2):=e2
    have hroom:addI u ((x:Int) :: []) = some (u ++ [(x:Int)]):=addI_ok (by simp only [List.length_singleton,hr.1]; exact Nat.le_trans (show j + 1 <= 4 by omega) (by decide))
    simp only [e2',Option.bind_some,hroom]
    exact ⟨_,rfl,hjn,_,_,rfl,hr.snoc ⟨by omega,by omega⟩,hc2⟩
   ·rw [if_neg hlt]
    have:j = n:=by
     have:¬ (j:Int) < n:=fun hh => hlt (ltZ_iff.2 (by rw [lenI_eq,hr.1]; exact hh))
     omega
    subst this
    exact ⟨_,rfl,_,_,_,rfl,hr,hc⟩)
  (s:=((d,(us,([],()))),(k,(rs,((n:Int),(a,(a2,(c,())))))))) ⟨_,_,rfl,⟨rfl,by simp⟩,h⟩ (Nat.lt_of_le_of_lt hn (by decide))
 obtain ⟨bo,u,c',rfl,h1,h2⟩:=hR
 exact ⟨bo,u,c',ho,h1,h2⟩
theorem Z6 (c:Ag) (h:CurOk c) (i:Nat) (hi:i < 6) (r s:Nat) (hr:r <= 2) (hs:s <= 2):∃ a c',GenA r s i a /\ CurOk c' /\ Lr (c,((i:Int),((r:Int),((s:Int),())))) () = some (a,c'):=by
 unfold Lr
 obtain ⟨k0,hk0,c0,hc0,e0⟩:=A6 c h 2 (by omega) (by omega)
 obtain ⟨k1,hk1,c1,hc1,e1⟩:=A6 c0 hc0 4 (by omega) (by omega)
 have e0':Ah (c,(2,())) () = some ((k0:Int),c0):=e0
 have e1':Ah (c0,(4,())) () = some ((k1:Int),c1):=e1
 have eq:quoZ .i64 (k1:Int) 2 = some ((k1 / 2:Nat):Int):=by
  unfold quoZ
  rw [if_neg (by decide)]
  have:((k1:Int).tdiv 2) = ((k1 / 2:Nat):Int):=rfl
  rw [this]
  exact congrArg some (wrap64 (by omega) (by omega))
 obtain ⟨m,hm⟩:∃ m,m = 1 + k1 / 2:=⟨_,rfl⟩
 have hm2:m <= 2:=by omega
 have hadd:addZ .i64 1 ((k1 / 2:Nat):Int) = (m:Int):=by rw [addZ64 (by omega) (by omega)]; omega
 simp only [Za c i hi,e0',Option.bind_some,e1',eq,hadd]
 obtain ⟨a2,ha2⟩:∃ a2:Ad,a2 = ([],(0,([],()))):=⟨_,rfl⟩
 obtain ⟨o,ho,hR⟩:=Cl (A:=(Int × (Int × (Int × (Ad × (Ad × (Ag × Unit))))))) (F:=K8) m
  (fun j st => ∃ ms cc,st = (((m:Int) - (j:Int)),((r:Int),((s:Int),((genName i,((k0:Int),(ms,()))),(a2,(cc,())))))) /\ ms.length = j /\ (∀ x ∈ ms,GenM r s x) /\ CurOk cc)
  (fun o => ∃ bo k ms c',o = .exit (.inl (bo,(k,((r:Int),((s:Int),((genName i,((k0:Int),(ms,()))),(a2,(c',())))))))) /\ ms.length = m /\ (∀ x ∈ ms,GenM r s x) /\ CurOk c') (fun j st hj hI => by
   obtain ⟨ms,cc,rfl,hl,hg,hc⟩:=hI
   unfold K8
   simp only
   by_cases hlt:ltZ 0 ((m:Int) - (j:Int)) = true
   ·rw [if_pos hlt]
    have hjm:j < m:=by rw [ltZ_iff] at hlt; omega
    obtain ⟨x,hx,c2,hc2,e2⟩:=A6 cc hc 4 (by omega) (by omega)
    have e2':Ah (cc,(4,())) () = some ((x:Int),c2):=e2
    have hd:addZ .i64 1 (x:Int) = 1 + (x:Int):=addZ64 (by omega) (by omega)
    obtain ⟨b3,u,c3,e3,hu,hc3⟩:=Um (1 + (x:Int)) [] ((m:Int) - (j:Int)) r hr (s:Int) (genName i,((k0:Int),(ms,()))) a2 c2 hc2
    obtain ⟨b4,w,c4,e4,hw,hc4⟩:=Ud (1 + (x:Int)) u ((m:Int) - (j:Int)) (r:Int) s hs (genName i,((k0:Int),(ms,()))) a2 c3 hc3
    have hsub:subZ .i64 ((m:Int) - (j:Int)) 1 = (m:Int) - ((j + 1:Nat):Int):=by rw [subZ64 (by omega) (by omega)]; omega
    have hroom:∀ y:D_Mode,addI ms (y :: []) = some (ms ++ [y]):=fun y => addI_ok (by simp only [List.length_singleton,hl]; exact Nat.le_trans (show j + 1 <= 4 by omega) (by decide))
    simp only [e2',Option.bind_some,hd,e3,e4,hroom,hsub]
    refine ⟨_,rfl,hjm,_,_,rfl,by simp [hl],fun y hy => ?_,hc4⟩
    rcases List.mem_append.1 hy with hy | hy
    ·exact hg y hy
    ·rw [List.mem_singleton.1 hy]
     exact ⟨⟨by simp only; omega,by simp only; omega⟩,hu.1,hu.2,hw.1,hw.2⟩
   ·rw [if_neg hlt]
    have:j = m:=by
     have:¬ (0:Int) < (m:Int) - j:=fun hh => hlt (ltZ_iff.2 hh)
     omega
    subst this
    exact ⟨_,rfl,_,_,_,_,rfl,hl,hg,hc⟩)
  (s:=((m:Int),((r:Int),((s:Int),((genName i,((k0:Int),([],()))),(a2,(c1,()))))))) ⟨[],c1,by simp,rfl,by simp,hc1⟩ (Nat.lt_of_le_of_lt hm2 (by decide))
 obtain ⟨bo,k,ms,c',rfl,h1,h2,h3⟩:=hR
 rw [ha2] at ho
 rw [ho]
 exact ⟨_,c',⟨rfl,⟨by simp only; omega,by simp only; omega⟩,⟨by simp only; omega,by simp only; omega⟩,h2⟩,h3,rfl⟩
open Go.Abs
set_option linter.unusedVariables false
set_option linter.unusedSimpArgs false
theorem Tm (most dl:Int) (p2:Aa) (m:Nat) (hm2:m <= 2) (c:Ag) (h:CurOk c) :
  ∃ bo k rs c',loopN (A:=(Int × (Int × (Aa × (Aa × (Ag × Unit)))))) big Jd ((m:Int),(most,((dl,([],([],([],([],()))))),(p2,(c,()))))) = some (.exit (.inl (bo,(k,(most,((dl,([],([],(rs,([],()))))),(p2,(c',())))))))) /\ rs.length = m /\ (∀ x ∈ rs,GenR x) /\ CurOk c':=by
 obtain ⟨o,ho,hR⟩:=Cl (A:=(Int × (Int × (Aa × (Aa × (Ag × Unit)))))) (F:=Jd) m
  (fun j st => ∃ rs cc,st = ((m:Int) - (j:Int),(most,((dl,([],([],(rs,([],()))))),(p2,(cc,()))))) /\ rs.length = j /\ (∀ x ∈ rs,GenR x) /\ CurOk cc)
  (fun o => ∃ bo k rs c',o = .exit (.inl (bo,(k,(most,((dl,([],([],(rs,([],()))))),(p2,(c',()))))))) /\ rs.length = m /\ (∀ x ∈ rs,GenR x) /\ CurOk c') (fun j st hj hI => by
   obtain ⟨rs,cc,rfl,hl,hg,hc⟩:=hI
   unfold Jd
   simp only
   by_cases hlt:ltZ 0 ((m:Int) - (j:Int)) = true
   ·rw [if_pos hlt]
    have hjm:j < m:=by rw [ltZ_iff] at hlt; omega
    obtain ⟨l,c2,hl1,hl2,hc2,e2⟩:=Yz cc hc
    obtain ⟨b,c3,hc3,e3⟩:=Nn c2 hc2 3 (by omega) (by omega)
    have e3':Cr (c2,(3,())) () = some (b,c3):=e3
    obtain ⟨t,c4,ht,hc4,e4⟩:=Xp c3 hc3
    have hsub:subZ .i64 ((m:Int) - (j:Int)) 1 = (m:Int) - ((j + 1:Nat):Int):=by rw [subZ64 (by omega) (by omega)]; omega
    have hroom:∀ y:Ai,addI rs (y :: []) = some (rs ++ [y]):=fun y => addI_ok (by simp only [List.length_singleton,hl]; exact Nat.le_trans (show j + 1 <= 4 by omega) (by decide))
    have hin:∀ y:Ai,GenR y -> ∀ x ∈ rs ++ [y],GenR x:=fun y hy x hx => by
     rcases List.mem_append.1 hx with hx | hx
     ·exact hg x hx
     ·rw [List.mem_singleton.1 hx]; exact hy
    cases b with
    | true =>
     simp only [e2,e3',e4,Option.bind_some,if_true,hroom,hsub]
     exact ⟨_,rfl,hjm,_,_,rfl,by simp [hl],hin _ ⟨hl1,hl2,.inr ht⟩,hc4⟩
    | false =>
     simp only [e2,e3',e4,Option.bind_some,Bool.false_eq_true,if_false,hroom,hsub]
     exact ⟨_,rfl,hjm,_,_,rfl,by simp [hl],hin _ ⟨hl1,hl2,.inl rfl⟩,hc3⟩
   ·rw [if_neg hlt]
    have:j = m:=by
     have:¬ (0:Int) < (m:Int) - j:=fun hh => hlt (ltZ_iff.2 hh)
     omega
    subst this
    exact ⟨_,rfl,_,_,_,_,rfl,hl,hg,hc⟩)
  (s:=((m:Int),(most,((dl,([],([],([],([],()))))),(p2,(c,())))))) ⟨[],c,by simp,rfl,by simp,h⟩ (Nat.lt_of_le_of_lt hm2 (by decide))
 obtain ⟨bo,k,rs,c',rfl,h1,h2,h3⟩:=hR
 exact ⟨bo,k,rs,c',ho,h1,h2,h3⟩
theorem Ur (dl:Int) (ks:List D_Link) (rs:List Ai) (ss:List Int) (hr:rs.length <= 2) (hs:ss.length <= 2) (p2:Aa) (m:Nat) (hm:m <= 6) (c:Ag) (h:CurOk c) :
  ∃ bo k acs c',loopN (A:=(Int × (Aa × (Aa × (Ag × Unit))))) big Gu ((m:Int),((dl,([],(ks,(rs,(ss,()))))),(p2,(c,())))) = some (.exit (.inl (bo,(k,((dl,(acs,(ks,(rs,(ss,()))))),(p2,(c',()))))))) /\ acs.length = m /\ (∀ i (hi:i < acs.length),GenA rs.length ss.length i acs[i]) /\ CurOk c':=by
 obtain ⟨o,ho,hR⟩:=Cl (A:=(Int × (Aa × (Aa × (Ag × Unit))))) (F:=Gu) m
  (fun j st => ∃ acs cc,st = ((m:Int) - (j:Int),((dl,(acs,(ks,(rs,(ss,()))))),(p2,(cc,())))) /\ acs.length = j /\ (∀ i (hi:i < acs.length),GenA rs.length ss.length i acs[i]) /\ CurOk cc)
  (fun o => ∃ bo k acs c',o = .exit (.inl (bo,(k,((dl,(acs,(ks,(rs,(ss,()))))),(p2,(c',())))))) /\ acs.length = m /\ (∀ i (hi:i < acs.length),GenA rs.length ss.length i acs[i]) /\ CurOk c') (fun j st hj hI => by
   obtain ⟨acs,cc,rfl,hl,hg,hc⟩:=hI
   unfold Gu
   simp only
   by_cases hlt:ltZ 0 ((m:Int) - (j:Int)) = true
   ·rw [if_pos hlt]
    have hjm:j < m:=by rw [ltZ_iff] at hlt; omega
    obtain ⟨a,c2,ha,hc2,e2⟩:=Z6 cc hc j (by omega) rs.length ss.length hr hs
    have hsub:subZ .i64 ((m:Int) - (j:Int)) 1 = (m:Int) - ((j + 1:Nat):Int):=by rw [subZ64 (by omega) (by omega)]; omega
    have hroom:addI acs (a :: []) = some (acs ++ [a]):=addI_ok (by simp only [List.length_singleton,hl]; exact Nat.le_trans (show j + 1 <= 8 by omega) (by decide))
    simp only [lenI_eq,hl,e2,Option.bind_some,hroom,hsub]
    refine ⟨_,rfl,hjm,_,_,rfl,by simp [hl],fun i hi => ?_,hc2⟩
    by_cases hil:i < acs.length
    ·rw [List.getElem_append_left hil]; exact hg i hil
    ·have:i = acs.length:=by simp at hi; omega
     subst this
     rw [List.getElem_append_right (Nat.le_refl _)]
     simp only [Nat.sub_self,List.getElem_cons_zero]
     rw [hl]; exact ha
   ·rw [if_neg hlt]
    have:j = m:=by
     have:¬ (0:Int) < (m:Int) - j:=fun hh => hlt (ltZ_iff.2 hh)
     omega
    subst this
    exact ⟨_,rfl,_,_,_,_,rfl,hl,hg,hc⟩)
  (s:=((m:Int),((dl,([],(ks,(rs,(ss,()))))),(p2,(c,()))))) ⟨[],c,by simp,rfl,by simp,h⟩ (Nat.lt_of_le_of_lt hm (by decide))
 obtain ⟨bo,k,acs,c',rfl,h1,h2,h3⟩:=hR
 exact ⟨bo,k,acs,c',ho,h1,h2,h3⟩
open Go.Abs
set_option linter.unusedVariables false
set_option linter.unusedSimpArgs false
theorem Uh (dl:Int) (acs:List Ad) (rs:List Ai) (ss:List Int) (n:Nat) (hn:n <= 6) (p2:Aa) (m:Nat) (hm:m <= 3) (c:Ag) (h:CurOk c) :
  ∃ bo k n' ks c',loopN (A:=(Int × (Int × (Aa × (Aa × (Ag × Unit)))))) big G3 ((m:Int),((n:Int),((dl,(acs,([],(rs,(ss,()))))),(p2,(c,()))))) = some (.exit (.inl (bo,(k,(n',((dl,(acs,(ks,(rs,(ss,()))))),(p2,(c',())))))))) /\ ks.length <= 3 /\ (∀ x ∈ ks,linkB (n:Int) x = true) /\ CurOk c':=by
 obtain ⟨o,ho,hR⟩:=Cl (A:=(Int × (Int × (Aa × (Aa × (Ag × Unit)))))) (F:=G3) m
  (fun j st => ∃ ks cc,st = ((m:Int) - (j:Int),((n:Int),((dl,(acs,(ks,(rs,(ss,()))))),(p2,(cc,()))))) /\ ks.length = j /\ (∀ x ∈ ks,linkB (n:Int) x = true) /\ CurOk cc)
  (fun o => ∃ bo k n' ks c',o = .exit (.inl (bo,(k,(n',((dl,(acs,(ks,(rs,(ss,()))))),(p2,(c',()))))))) /\ ks.length <= 3 /\ (∀ x ∈ ks,linkB (n:Int) x = true) /\ CurOk c') (fun j st hj hI => by
   obtain ⟨ks,cc,rfl,hl,hg,hc⟩:=hI
   unfold G3
   simp only
   by_cases hlt:ltZ 0 ((m:Int) - (j:Int)) = true
   ·rw [if_pos hlt]
    have hjm:j < m:=by rw [ltZ_iff] at hlt; omega
    simp only [Option.bind_some]
    by_cases h2:ltZ 1 (n:Int) = true
    ·rw [if_pos h2]
     have hn2:2 <= n:=by rw [ltZ_iff] at h2; omega
     obtain ⟨a,ha,c2,hc2,e2⟩:=A6 cc hc (n - 1) (by omega) (by omega)
     obtain ⟨b,hb,c3,hc3,e3⟩:=A6 c2 hc2 (n - 1 - a) (by omega) (by omega)
     obtain ⟨q,c4,hc4,e4⟩:=Nn c3 hc3 3 (by omega) (by omega)
     obtain ⟨lg,hlg,c5,hc5,e5⟩:=A6 c4 hc4 3 (by omega) (by omega)
     obtain ⟨q2,c6,hc6,e6⟩:=Nn c5 hc5 6 (by omega) (by omega)
     obtain ⟨bk,hbk,c7,hc7,e7⟩:=A6 c6 hc6 9 (by omega) (by omega)
     have e4':Cr (c3,(3,())) () = some (q,c4):=e4
     have e5':Ah (c4,(3,())) () = some ((lg:Int),c5):=e5
     have e6':Cr (c5,(6,())) () = some (q2,c6):=e6
     have e7':Ah (c6,(9,())) () = some ((bk:Int),c7):=e7
     have s1:subZ .i64 (n:Int) 1 = ((n - 1:Nat):Int):=by rw [subZ64 (by omega) (by omega)]; omega
     have s2:subZ .i64 ((n - 1:Nat):Int) (a:Int) = ((n - 1 - a:Nat):Int):=by rw [subZ64 (by omega) (by omega)]; omega
     have s3:addZ .i64 (addZ .i64 (a:Int) 1) (b:Int) = (a:Int) + 1 + b:=by rw [addZ64 (x:=(a:Int)) (by omega) (by omega),addZ64 (by omega) (by omega)]
     have s4:subZ .i64 (-4) (bk:Int) = -4 - (bk:Int):=subZ64 (by omega) (by omega)
     have hsub:subZ .i64 ((m:Int) - (j:Int)) 1 = (m:Int) - ((j + 1:Nat):Int):=by rw [subZ64 (by omega) (by omega)]; omega
     have hroom:∀ y:D_Link,addI ks (y :: []) = some (ks ++ [y]):=fun y => addI_ok (by simp only [List.length_singleton,hl]; exact Nat.le_trans (show j + 1 <= 8 by omega) (by decide))
     have hin:∀ y:D_Link,linkB (n:Int) y = true -> ∀ x ∈ ks ++ [y],linkB (n:Int) x = true:=fun y hy x hx => by
      rcases List.mem_append.1 hx with hx | hx
      ·exact hg x hx
      ·rw [List.mem_singleton.1 hx]; exact hy
     have mk:∀ (x y:Int) (f:Bool) (z:Int),0 <= x -> x < n -> 0 <= y -> y < n -> x ≠ y -> -60 <= z -> z <= 60 -> linkB (n:Int) (x,(y,(f,(z,())))) = true:=fun x y f z a1 a2 a3 a4 a5 a6 a7 => by
      unfold linkB
      simp only [s1,Bool.and_eq_true]
      have:eqZ x y = false:=by rw [Bool.eq_false_iff,Ne,eqZ_iff]; exact a5
      exact ⟨⟨⟨inB_iff.2 (by omega),inB_iff.2 (by omega)⟩,by rw [this]; rfl⟩,inB_iff.2 ⟨a6,a7⟩⟩
     cases q2 with
     | true =>
      simp only [s1,e2,Option.bind_some,s2,e3,e4',e5',e6',e7',s3,s4,hroom,hsub,if_true]
      exact ⟨_,rfl,hjm,_,_,rfl,by simp [hl],hin _ (mk _ _ _ _ (by omega) (by omega) (by omega) (by omega) (by omega) (by omega) (by omega)),hc7⟩
     | false =>
      simp only [s1,e2,Option.bind_some,s2,e3,e4',e5',e6',e7',s3,s4,hroom,hsub,Bool.false_eq_true,if_false]
      exact ⟨_,rfl,hjm,_,_,rfl,by simp [hl],hin _ (mk _ _ _ _ (by omega) (by omega) (by omega) (by omega) (by omega) (by omega) (by omega)),hc6⟩
    ·rw [if_neg h2]
     exact ⟨_,rfl,_,_,_,_,_,rfl,by omega,hg,hc⟩
   ·rw [if_neg hlt]
    simp only [Option.bind_some,Bool.false_eq_true,if_false]
    exact ⟨_,rfl,_,_,_,_,_,rfl,by omega,hg,hc⟩)
  (s:=((m:Int),((n:Int),((dl,(acs,([],(rs,(ss,()))))),(p2,(c,())))))) ⟨[],c,by simp,rfl,by simp,h⟩ (Nat.lt_of_le_of_lt hm (by decide))
 obtain ⟨bo,k,n',ks,c',rfl,h1,h2,h3⟩:=hR
 exact ⟨bo,k,n',ks,c',ho,h1,h2,h3⟩
theorem Aaa (c:Ag) (h:CurOk c) (most:Nat) (h0:1 <= most) (h6:most <= 6):∃ p c',GenP most p /\ CurOk c' /\ Ke (c,((most:Int),())) () = some (p,c'):=by
 unfold Ke
 obtain ⟨k0,hk0,c0,hc0,e0⟩:=A6 c h 12 (by omega) (by omega)
 obtain ⟨k1,hk1,c1,hc1,e1⟩:=A6 c0 hc0 4 (by omega) (by omega)
 have e0':Ah (c,(12,())) () = some ((k0:Int),c0):=e0
 have e1':Ah (c0,(4,())) () = some ((k1:Int),c1):=e1
 have eq:quoZ .i64 (k1:Int) 2 = some ((k1 / 2:Nat):Int):=by
  unfold quoZ
  rw [if_neg (by decide)]
  have:((k1:Int).tdiv 2) = ((k1 / 2:Nat):Int):=rfl
  rw [this]
  exact congrArg some (wrap64 (by omega) (by omega))
 obtain ⟨m,hm⟩:∃ m,m = 1 + k1 / 2:=⟨_,rfl⟩
 have hadd:addZ .i64 1 ((k1 / 2:Nat):Int) = (m:Int):=by rw [addZ64 (by omega) (by omega)]; omega
 have hdl:addZ .i64 12 (k0:Int) = 12 + (k0:Int):=addZ64 (by omega) (by omega)
 obtain ⟨b2,i2,rs,c2,e2,hr1,hr2,hc2⟩:=Tm (most:Int) (12 + (k0:Int)) (0,([],([],([],([],()))))) m (by omega) c1 hc1
 obtain ⟨q,c3,hc3,e3⟩:=Nn c2 hc2 3 (by omega) (by omega)
 have e3':Cr (c2,(3,())) () = some (q,c3):=e3
 obtain ⟨k4,hk4,c4,hc4,e4⟩:=A6 c3 hc3 6 (by omega) (by omega)
 have e4':Ah (c3,(6,())) () = some ((k4:Int),c4):=e4
 have rest:∀ (ss:List Int) (cc:Ag),CurOk cc -> ss.length <= 1 -> (∀ x ∈ ss,0 <= x /\ x <= 5) -> ∃ p c' k5 b6 i6 acs c6 c5 k7 c7 b8 i8 n8 ks,GenP most p /\ CurOk c' /\
   Ah (cc,((most:Int),())) () = some ((k5:Int),c5) /\
   loopN (A:=(Int × (Aa × (Aa × (Ag × Unit))))) big Gu ((addZ .i64 1 (k5:Int)),((12 + (k0:Int),([],([],(rs,(ss,()))))),((0,([],([],([],([],()))))),(c5,())))) = some (.exit (.inl (b6,(i6,((12 + (k0:Int),(acs,([],(rs,(ss,()))))),((0,([],([],([],([],()))))),(c6,()))))))) /\
   Ah (c6,(4,())) () = some ((k7:Int),c7) /\
   loopN (A:=(Int × (Int × (Aa × (Aa × (Ag × Unit)))))) big G3 ((k7:Int),((lenI acs),((12 + (k0:Int),(acs,([],(rs,(ss,()))))),((0,([],([],([],([],()))))),(c7,()))))) = some (.exit (.inl (b8,(i8,(n8,((12 + (k0:Int),(acs,(ks,(rs,(ss,()))))),((0,([],([],([],([],()))))),(c',())))))))) /\
   p = (12 + (k0:Int),(acs,(ks,(rs,(ss,()))))):=fun ss cc hcc hs1 hs2 => by
  obtain ⟨k5,hk5,c5,hc5,e5⟩:=A6 cc hcc most (by omega) (by omega)
  have ha:addZ .i64 1 (k5:Int) = ((1 + k5:Nat):Int):=by rw [addZ64 (by omega) (by omega)]; omega
  obtain ⟨b6,i6,acs,c6,e6,ha1,ha2,hc6⟩:=Ur (12 + (k0:Int)) [] rs ss (by omega) (by omega) (0,([],([],([],([],()))))) (1 + k5) (by omega) c5 hc5
  obtain ⟨k7,hk7,c7,hc7,e7⟩:=A6 c6 hc6 4 (by omega) (by omega)
  obtain ⟨b8,i8,n8,ks,c8,e8,hk1',hk2',hc8⟩:=Uh (12 + (k0:Int)) acs rs ss acs.length (by omega) (0,([],([],([],([],()))))) k7 (by omega) c7 hc7
  exact ⟨_,c8,k5,b6,i6,acs,c6,c5,k7,c7,b8,i8,n8,ks,⟨by simp only; omega,by simp only; omega,hr2,hs1,hs2,by simp only; omega,ha2,hk1',hk2'⟩,hc8,e5,by rw [ha]; exact e6,e7,by rw [lenI_eq]; exact e8,rfl⟩
 cases q with
 | true =>
  obtain ⟨p,c',k5,b6,i6,acs,c6,c5,k7,c7,b8,i8,n8,ks,hp,hc',f1,f2,f3,f4,rfl⟩:=rest [(k4:Int)] c4 hc4 (by simp) (fun x hx => by rw [List.mem_singleton.1 hx]; omega)
  simp only [e0',Option.bind_some,e1',eq,hadd,hdl,e2,e3',e4',if_true,f1,f2,f3,f4]
  exact ⟨_,_,hp,hc',rfl⟩
 | false =>
  obtain ⟨p,c',k5,b6,i6,acs,c6,c5,k7,c7,b8,i8,n8,ks,hp,hc',f1,f2,f3,f4,rfl⟩:=rest [] c3 hc3 (by simp) (fun x hx => by simp at hx)
  simp only [e0',Option.bind_some,e1',eq,hadd,hdl,e2,e3',Bool.false_eq_true,if_false,f1,f2,f3,f4]
  exact ⟨_,_,hp,hc',rfl⟩
theorem GenP.mono {a b:Nat} (hab:a <= b) {p:Aa} (h:GenP a p):GenP b p:=⟨h.dl,h.rl,h.r,h.sl,h.s,⟨h.al.1,by have:=h.al.2; omega⟩,h.a,h.kl,h.k⟩
open Go.Abs
set_option linter.unusedVariables false
set_option linter.unusedSimpArgs false
structure GenS (acs:List Ad) (j:Nat) (st md:List Int):Prop where
 s1:st.length = j
 m1:md.length = j
 s:∀ x ∈ st,0 <= x /\ x <= 24
 m:∀ i (h1:i < md.length) (h2:i < acs.length),0 <= md[i] /\ md[i] < (acs[i].2.2.1.length:Int)
end Go.Proofs.YteggmejnpcfalaaGreat
