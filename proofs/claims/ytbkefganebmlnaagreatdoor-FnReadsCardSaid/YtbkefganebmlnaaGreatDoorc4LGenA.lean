/-
  Plain laws: numbers in a row, lists that hold a number, sets, domains (several small texts in one). Condition: no list is longer than 2 to the 40.
-/
import Derived.Test.YtbkefganebmlnaaGreatDoorc4LProjM
import Derived.Test.YtbkefganebmlnaaGreatDoorN37
import Derived.Test.YtbkefganebmlnaaGreatDoorN36
import Derived.Test.YtbkefganebmlnaaGreatDoorc4W
import Derived.Test.YtbkefganebmlnaaGreatDoorN35
namespace Go.Proofs.YtbkefganebmlnaaGreatDoor
open Go.Abs
set_option linter.unusedVariables false
set_option linter.unusedSimpArgs false
/-- the names that are given, by place -/
def genName:Nat -> List UInt8
  | 0 => [97]
  | 1 => [98]
  | 2 => [99]
  | 3 => [100]
  | 4 => [101,49]
  | _ => [102]
theorem Uj:∀ i,i < 6 -> nameB (genName i) = true /\ (genName i).length <= 2
  | 0,_ => ⟨by decide,by decide⟩
  | 1,_ => ⟨by decide,by decide⟩
  | 2,_ => ⟨by decide,by decide⟩
  | 3,_ => ⟨by decide,by decide⟩
  | 4,_ => ⟨by decide,by decide⟩
  | 5,_ => ⟨by decide,by decide⟩
  | n + 6,h => absurd h (by omega)
theorem X2:∀ i,i < 6 -> ∀ j,j < i -> eqS (genName j) (genName i) = false:=by decide
structure GenM (r s:Nat) (m:D_Mode):Prop where
  d:1 <= m.1 /\ m.1 <= 4
  ul:m.2.1.length = r
  u:∀ x ∈ m.2.1,0 <= x /\ x <= 2
  cl:m.2.2.1.length = s
  c:∀ x ∈ m.2.2.1,0 <= x /\ x <= 2
structure GenA (r s i:Nat) (a:Ab):Prop where
  name:a.1 = genName i
  fam:0 <= a.2.1 /\ a.2.1 <= 1
  ml:1 <= a.2.2.1.length /\ a.2.2.1.length <= 2
  m:∀ m ∈ a.2.2.1,GenM r s m
structure GenR (x:Af):Prop where
  steps:stepsB x.1 = true
  sl:x.1.length <= 3
  setup:x.2.1 = [] \/ (x.2.1.length = 4 /\ ∀ row ∈ x.2.1,row.length = 4 /\ ∀ n ∈ row,0 <= n /\ n <= 2)
structure GenP (most:Nat) (p:Aa):Prop where
  dl:1 <= p.1 /\ p.1 <= 23
  rl:1 <= p.2.2.2.1.length /\ p.2.2.2.1.length <= 2
  r:∀ x ∈ p.2.2.2.1,GenR x
  sl:p.2.2.2.2.1.length <= 1
  s:∀ x ∈ p.2.2.2.2.1,0 <= x /\ x <= 5
  al:1 <= p.2.1.length /\ p.2.1.length <= most
  a:∀ i (hi:i < p.2.1.length),GenA p.2.2.2.1.length p.2.2.2.2.1.length i p.2.1[i]
  kl:p.2.2.1.length <= 3
  k:∀ k ∈ p.2.2.1,linkB (p.2.1.length:Int) k = true
theorem GenM.ok {r s:Nat} {m:D_Mode} (h:GenM r s m):modeB m (r:Int) (s:Int) = true:=by
  unfold modeB
  simp only [Bool.and_eq_true,List.all_eq_true]
  refine ⟨⟨inB_iff.2 (by have:=h.d; omega),fun x hx => inB_iff.2 (by have:=h.u x hx; omega),?_⟩,fun x hx => inB_iff.2 (by have:=h.c x hx; omega),?_⟩
  · rw [eqZ_dec,decide_eq_true_eq,h.ul]
  · rw [eqZ_dec,decide_eq_true_eq,h.cl]
theorem GenR.ok {x:Af} (h:GenR x):resrB x = true:=by
  unfold resrB
  simp only [Bool.and_eq_true,List.all_eq_true,Bool.or_eq_true]
  rcases h.setup with e | ⟨e1,e2⟩
  · refine ⟨fun row hr => ?_,h.steps,.inl ?_⟩
    · rw [e] at hr; simp at hr
    · rw [e]; rfl
  · refine ⟨fun row hr => ?_,h.steps,.inr ?_⟩
    · unfold rowB
      simp only [Bool.and_eq_true,List.all_eq_true]
      obtain ⟨f1,f2⟩:=e2 row hr
      refine ⟨by rw [eqZ_dec,decide_eq_true_eq,f1]; rfl,fun n hn => inB_iff.2 (by have:=f2 n hn; omega)⟩
    · rw [eqZ_dec,decide_eq_true_eq,e1]; rfl
theorem GenP.ok {most:Nat} {p:Aa} (h:GenP most p) (hm:most <= 6):projB p = true:=by
  unfold projB
  simp only [Bool.and_eq_true,List.all_eq_true]
  have hal:=h.al
  have hrl:=h.rl
  have hsl:=h.sl
  have hkl:=h.kl
  have hdl:=h.dl
  have lt_f:∀ {x y:Int},y <= x -> notB (ltZ x y) = true:=fun {x y} hxy => by
    have:ltZ x y = false:=by rw [Bool.eq_false_iff,Ne,ltZ_iff]; omega
    rw [this]; rfl
  refine ⟨⟨⟨⟨⟨⟨⟨⟨inB_iff.2 (by omega),inB_iff.2 (by rw [lenI_eq]; omega)⟩,lt_f (by rw [lenI_eq]; omega)⟩,lt_f (by rw [lenI_eq]; omega)⟩,lt_f (by rw [lenI_eq]; omega)⟩,fun i hi => ?_⟩,fun x hx => (h.r x hx).ok⟩,fun x hx => inB_iff.2 (by have:=h.s x hx; omega)⟩,fun k hk => h.k k hk⟩
  have hi':i < p.2.1.length:=by simpa using hi
  have ha:=h.a i hi'
  unfold actI
  rw [List.getElem?_eq_getElem hi']
  simp only [Bool.and_eq_true]
  refine ⟨?_,?_⟩
  · unfold actB
    simp only [Bool.and_eq_true,List.all_eq_true]
    refine ⟨fun m hm => (ha.m m hm).ok,⟨?_,inB_iff.2 (by have:=ha.fam; omega)⟩,inB_iff.2 (by have:=ha.ml; omega)⟩
    rw [ha.name]
    exact (Uj i (by omega)).1
  · have hf:p.2.1.findIdx? (fun b => eqS b.1 p.2.1[i].1) = some i:=by
      rw [List.findIdx?_eq_some_iff_getElem]
      refine ⟨hi',Re _,fun j hj => ?_⟩
      have hj':j < p.2.1.length:=by omega
      rw [(h.a j hj').name,ha.name,X2 i (by omega) j hj]
      simp
    unfold idxOf
    rw [hf]
    exact Ir _
theorem GenP.sm {most:Nat} {p:Aa} (h:GenP most p) (hm:most <= 6) {B:Nat} (hB:8 <= B):L6 B p:=by
  have hal:=h.al
  have hrl:=h.rl
  have hsl:=h.sl
  have hkl:=h.kl
  refine ⟨trivial,⟨by omega,fun a ha => ?_⟩,⟨by omega,fun k hk => ⟨trivial,trivial,trivial,trivial,trivial⟩⟩,⟨by omega,fun x hx => ?_⟩,⟨by omega,fun _ _ => trivial⟩,trivial⟩
  · obtain ⟨i,hi,rfl⟩:=List.mem_iff_getElem.1 ha
    have g:=h.a i hi
    refine ⟨?_,trivial,⟨by have:=g.ml; omega,fun m hm => ⟨trivial,⟨by have:=(g.m m hm).ul; omega,fun _ _ => trivial⟩,⟨by have:=(g.m m hm).cl; omega,fun _ _ => trivial⟩,trivial⟩⟩,trivial⟩
    rw [g.name]
    have:=(Uj i (by omega)).2
    omega
  · have g:=h.r x hx
    refine ⟨⟨by have:=g.sl; omega,fun _ _ => ⟨trivial,trivial,trivial⟩⟩,⟨?_,fun row hr => ⟨?_,fun _ _ => trivial⟩⟩,trivial⟩
    · rcases g.setup with e | ⟨e,-⟩
      · rw [e]; simp
      · rw [e]; omega
    · rcases g.setup with e | ⟨-,e⟩
      · rw [e] at hr; simp at hr
      · have:=(e row hr).1; omega
open Go.Abs
set_option linter.unusedVariables false
set_option linter.unusedSimpArgs false
/-- a generator's cursor: where it stands in its list -/
def CurOk (c:Ac):Prop:=0 <= c.2.1 /\ c.1.length <= 1048576 /\ c.2.1 <= 1048576
theorem Aed (c:Ac) (h:CurOk c):∃ k:Nat,k <= 255 /\ ∃ c',CurOk c' /\ Cq (c,()) () = some ((k:Int),c'):=by
  obtain ⟨b,i,hh,u⟩:=c
  obtain ⟨h1,h2,h3⟩:=h
  simp only at h1 h2 h3
  unfold Cq
  simp only
  obtain ⟨v0,e0⟩:=Adl (addZ .i64 (mulZ .i64 hh 6364136223846793005) 1442695040888963407) 33
  obtain ⟨v1,e1⟩:=Adl (addZ .i64 (mulZ .i64 hh 6364136223846793005) 1442695040888963407) 45
  have e0':shiftI false .i64 (addZ .i64 (mulZ .i64 hh 6364136223846793005) 1442695040888963407) 33 = some v0:=e0
  have e1':shiftI false .i64 (addZ .i64 (mulZ .i64 hh 6364136223846793005) 1442695040888963407) 45 = some v1:=e1
  rw [e0',Option.bind_some,e1',Option.bind_some]
  by_cases hlt:ltZ i (lenI b) = true
  · rw [if_pos hlt]
    have hl:i < (b.length:Int):=by rw [ltZ_iff,lenI_eq] at hlt; exact hlt
    obtain ⟨j,rfl⟩:∃ j:Nat,i = (j:Int):=⟨i.toNat,by omega⟩
    have hj:j < b.length:=by omega
    have hg:getI b (j:Int) = some b[j]:=by
      simp [getI,hj]
    rw [hg]
    simp only [Option.bind_some]
    obtain ⟨k,hk,e⟩:=and255 (addZ .i64 (bitsI .and .i64 (bitsI .xor .i64 v0 v1) 255) (wrapI .i64 b[j]))
    refine ⟨k,hk,_,⟨?_,?_,?_⟩,by rw [e]⟩
    · have:addZ .i64 (j:Int) 1 = (j:Int) + 1:=wrap64 (by omega) (by omega)
      simp only [this]; omega
    · exact h2
    · have:addZ .i64 (j:Int) 1 = (j:Int) + 1:=wrap64 (by omega) (by omega)
      simp only [this]; omega
  · rw [if_neg hlt]
    simp only [Option.bind_some]
    obtain ⟨k,hk,e⟩:=and255 (bitsI .xor .i64 v0 v1)
    exact ⟨k,hk,_,⟨h1,h2,h3⟩,by rw [e]⟩
/-- a number below n, n at least 1 and at most 256 -/
theorem A0 (c:Ac) (h:CurOk c) (n:Nat) (h0:0 < n) (hn:n <= 256):∃ k:Nat,k < n /\ ∃ c',CurOk c' /\ Ae (c,((n:Int),())) () = some ((k:Int),c'):=by
  unfold Ae
  have e1:leZ (n:Int) 0 = false:=by rw [Bool.eq_false_iff,Ne,leZ_iff]; omega
  have e2:leZ (n:Int) 256 = true:=by rw [leZ_iff]; omega
  simp only [e1,e2,if_true,Bool.false_eq_true,if_false]
  obtain ⟨k,hk,c',hc',e⟩:=Aed c h
  rw [e]
  simp only [Option.bind_some,Agu k n h0]
  exact ⟨k % n,Nat.mod_lt _ h0,c',hc',rfl⟩
theorem Ny (c:Ac) (h:CurOk c) (n:Nat) (h0:0 < n) (hn:n <= 256):∃ b:Bool,∃ c',CurOk c' /\ B8 (c,((n:Int),())) () = some (b,c'):=by
  unfold B8
  obtain ⟨k,hk,c',hc',e⟩:=A0 c h n h0 hn
  simp only [e,Option.bind_some]
  exact ⟨_,c',hc',rfl⟩
/-- the cursor at the start -/
theorem S4 (b:List Int) (hb:b.length <= 1048576):∃ c',CurOk c' /\ F3 (b,()) () = some (c',()):=by
  unfold F3
  obtain ⟨o,ho,hR⟩:=A5 (A:=(Int × ((List Int) × (Int × Unit)))) (F:=Ls) b.length
    (fun j s => s.1 = (j:Int) /\ s.2.1 = b)
    (fun o => ∃ bo i h,o = .exit (.inl (bo,(i,(b,(h,())))))) (fun j s hj hI => by
      obtain ⟨i,b',h,u⟩:=s
      obtain ⟨rfl,rfl⟩:=hI
      unfold Ls
      simp only
      by_cases h1:ltZ (j:Int) (lenI b') = true
      · rw [if_pos h1]
        simp only [Option.bind_some]
        by_cases h2:ltZ (j:Int) 4000 = true
        · rw [if_pos h2]
          have hl:j < b'.length:=by rw [ltZ_iff,lenI_eq] at h1; omega
          have hg:getI b' (j:Int) = some b'[j]:=by simp [getI,hl]
          rw [hg]
          refine ⟨_,rfl,hl,?_,rfl⟩
          show addZ .i64 (j:Int) 1 = _
          rw [addZ64 (by omega) (by omega)]; omega
        · rw [if_neg h2]
          exact ⟨_,rfl,_,_,_,rfl⟩
      · rw [if_neg h1]
        simp only [Option.bind_some,Bool.false_eq_true,if_false]
        exact ⟨_,rfl,_,_,_,rfl⟩)
    (s:=(0,(b,((addZ .i64 1950 (lenI b)),())))) ⟨rfl,rfl⟩ (Nat.lt_of_le_of_lt hb (by decide))
  obtain ⟨bo,i,h,rfl⟩:=hR
  simp only
  rw [ho]
  exact ⟨_,⟨Int.le_refl 0,hb,(by show (0:Int) <= 1048576; decide)⟩,rfl⟩
theorem Acl (l:List D_Step) (s:D_Step) (hl:1 <= l.length) (h7:l.length <= 7) (h:stepsB l = true) (h1:0 <= s.1 /\ s.1 <= 60) (h2:0 <= s.2.1 /\ s.2.1 <= 20) (hlt:(l[l.length - 1]'(by omega)).1 < s.1):stepsB (l ++ [s]) = true:=by
  unfold stepsB at h ⊢
  simp only [Bool.and_eq_true,List.all_eq_true,List.mem_range] at h ⊢
  obtain ⟨⟨ha,hf⟩,-⟩:=h
  refine ⟨⟨fun i hi => ?_,?_⟩,inB_iff.2 (by simp; omega)⟩
  · simp only [List.length_append,List.length_singleton] at hi
    by_cases hin:i < l.length
    · have:=ha i hin
      unfold stepI at this ⊢
      rw [List.getElem?_append_left hin]
      cases i with
      | zero => exact this
      | succ j =>
        have e:(l ++ [s])[j]? = l[j]?:=List.getElem?_append_left (by omega)
        simp only [e] at this ⊢
        exact this
    · obtain rfl:i = l.length:=by omega
      unfold stepI
      rw [List.getElem?_append_right (Nat.le_refl _)]
      simp only [Nat.sub_self,List.getElem?_cons_zero,Bool.and_eq_true]
      refine ⟨⟨inB_iff.2 h1,inB_iff.2 h2⟩,?_⟩
      obtain ⟨j,hj⟩:∃ j,l.length = j + 1:=⟨l.length - 1,by omega⟩
      have hjl:j < l.length:=by omega
      rw [hj]
      simp only
      rw [List.getElem?_append_left hjl,List.getElem?_eq_getElem hjl]
      have e:l[l.length - 1] = l[j]:=by congr 1; omega
      rw [e] at hlt
      have:leZ s.1 l[j].1 = false:=by rw [Bool.eq_false_iff,Ne,leZ_iff]; omega
      simp only [this]; rfl
  · unfold firstB at hf ⊢
    rw [List.getElem?_append_left (by omega)]
    exact hf
/-- steps that are drawn, j of them behind the first -/
def StG (j:Nat) (l:List D_Step):Prop:=∃ h:l.length = j + 1,stepsB l = true /\ 0 <= (l[j]'(by omega)).1 /\ (l[j]'(by omega)).1 <= 9 * j
theorem Ado (c:Ac) (h:CurOk c):∃ l c',stepsB l = true /\ l.length <= 3 /\ CurOk c' /\ Km (c,()) () = some (l,c'):=by
  unfold Km
  obtain ⟨k0,hk0,c0,hc0,e0⟩:=A0 c h 4 (by omega) (by omega)
  obtain ⟨k1,hk1,c1,hc1,e1⟩:=A0 c0 hc0 6 (by omega) (by omega)
  have e0':Ae (c,(4,())) () = some ((k0:Int),c0):=e0
  have e1':Ae (c0,(6,())) () = some ((k1:Int),c1):=e1
  simp only [e0',Option.bind_some,e1']
  have eq:quoZ .i64 (k1:Int) 2 = some ((k1 / 2:Nat):Int):=by
    unfold quoZ
    rw [if_neg (by decide)]
    have:((k1:Int).tdiv 2) = ((k1 / 2:Nat):Int):=rfl
    rw [this]
    exact congrArg some (wrap64 (by omega) (by omega))
  rw [eq,Option.bind_some]
  obtain ⟨m,hm⟩:∃ m,m = k1 / 2:=⟨_,rfl⟩
  have hm2:m <= 2:=by omega
  rw [<- hm]
  have hcap:addZ .i64 1 (k0:Int) = 1 + (k0:Int):=addZ64 (by omega) (by omega)
  rw [hcap]
  have hst:stepsB [((0:Int),(1 + (k0:Int),()))] = true:=by
    have h1:inB (1 + (k0:Int)) 0 20 = true:=inB_iff.2 (by omega)
    unfold stepsB
    simp [stepI,firstB,h1]
    try decide
  obtain ⟨o,ho,hR⟩:=A5 (A:=(Int × ((List D_Step) × (Ac × Unit)))) (F:=Kl) m
    (fun j s => s.1 = (m:Int) - j /\ StG j s.2.1 /\ CurOk s.2.2.1)
    (fun o => ∃ bo i l c',o = .exit (.inl (bo,(i,(l,(c',()))))) /\ stepsB l = true /\ l.length <= 3 /\ CurOk c') (fun j s hj hI => by
      obtain ⟨i,l,cc,u⟩:=s
      obtain ⟨hi,⟨hl,hs,ha0,ha1⟩,hc⟩:=hI
      simp only at hi hl hs ha0 ha1 hc
      unfold Kl
      simp only
      by_cases hlt:ltZ 0 i = true
      · rw [if_pos hlt]
        have hjm:j < m:=by rw [ltZ_iff] at hlt; omega
        have hsub:subZ .i64 (lenI l) 1 = (j:Int):=by
          rw [lenI_eq,subZ64 (by omega) (by omega)]; omega
        have hjl:j < l.length:=by omega
        have hg:getI l (j:Int) = some l[j]:=by simp [getI,hjl]
        obtain ⟨a,ha,c2,hc2,e2⟩:=A0 cc hc 9 (by omega) (by omega)
        obtain ⟨b,hb,c3,hc3,e3⟩:=A0 c2 hc2 5 (by omega) (by omega)
        have e2':Ae (cc,(9,())) () = some ((a:Int),c2):=e2
        have e3':Ae (c2,(5,())) () = some ((b:Int),c3):=e3
        simp only [hsub,hg,Option.bind_some,e2',e3']
        have hx:addZ .i64 (addZ .i64 l[j].1 1) (a:Int) = l[j].1 + 1 + a:=by
          rw [addZ64 (x:=l[j].1) (by omega) (by omega),addZ64 (by omega) (by omega)]
        rw [hx,addI_ok (by simp only [List.length_singleton]; exact Nat.le_trans (show l.length + 1 <= 4 by omega) (by decide)),Option.bind_some]
        refine ⟨_,rfl,hjm,?_,⟨?_,?_,?_,?_⟩,hc3⟩
        · simp only
          rw [hi,subZ64 (by omega) (by omega)]; omega
        · simp; omega
        · refine Acl l _ (by omega) (by omega) hs ⟨?_,?_⟩ ⟨?_,?_⟩ ?_
          · simp only; omega
          · simp only; omega
          · simp only; omega
          · simp only; omega
          · have e:l[l.length - 1] = l[j]:=by congr 1; omega
            rw [e]; simp only; omega
        · simp only
          rw [List.getElem_append_right (by omega)]
          simp only [hl,Nat.sub_self,List.getElem_cons_zero]; omega
        · simp only
          rw [List.getElem_append_right (by omega)]
          simp only [hl,Nat.sub_self,List.getElem_cons_zero]; omega
      · rw [if_neg hlt]
        exact ⟨_,rfl,_,_,_,_,rfl,hs,by omega,hc⟩)
    (s:=((m:Int),(((0,((1 + (k0:Int)),())) :: []),(c1,())))) ⟨by simp,⟨rfl,hst,by simp,by simp⟩,hc1⟩ (Nat.lt_of_le_of_lt hm2 (by decide))
  obtain ⟨bo,i,l,c',rfl,h1,h2,h3⟩:=hR
  rw [ho]
  exact ⟨l,c',h1,h2,h3,rfl⟩
open Go.Abs
set_option linter.unusedVariables false
set_option linter.unusedSimpArgs false
def Row4 (j:Nat) (r:List Int):Prop:=r.length = j /\ ∀ n ∈ r,0 <= n /\ n <= 2
theorem Row4.snoc {j:Nat} {r:List Int} (h:Row4 j r) {x:Int} (hx:0 <= x /\ x <= 2):Row4 (j + 1) (r ++ [x]):=by
  refine ⟨by simp [h.1],fun n hn => ?_⟩
  rcases List.mem_append.1 hn with hn | hn
  · exact h.2 n hn
  · rw [List.mem_singleton.1 hn]; exact hx
theorem W3 (out:List (List Int)) (i:Int) (c:Ac) (h:CurOk c):∃ bo k row c',loopN (A:=(Int × ((List (List Int)) × ((List Int) × (Int × (Ac × Unit)))))) big In (0,(out,([],(i,(c,()))))) = some (.exit (.inl (bo,(k,(out,(row,(i,(c',())))))))) /\ Row4 4 row /\ CurOk c':=by
  obtain ⟨o,ho,hR⟩:=A5 (A:=(Int × ((List (List Int)) × ((List Int) × (Int × (Ac × Unit)))))) (F:=In) 4
    (fun j s => s.1 = (j:Int) /\ s.2.1 = out /\ Row4 j s.2.2.1 /\ s.2.2.2.1 = i /\ CurOk s.2.2.2.2.1)
    (fun o => ∃ bo k row c',o = .exit (.inl (bo,(k,(out,(row,(i,(c',()))))))) /\ Row4 4 row /\ CurOk c') (fun j s hj hI => by
      obtain ⟨k,ou,row,i',cc,u⟩:=s
      obtain ⟨rfl,rfl,hr,rfl,hc⟩:=hI
      simp only at hr hc
      unfold In
      simp only
      by_cases hlt:ltZ (j:Int) 4 = true
      · rw [if_pos hlt]
        have hj4:j < 4:=by rw [ltZ_iff] at hlt; omega
        have hadd:addZ .i64 (j:Int) 1 = ((j + 1:Nat):Int):=by rw [addZ64 (by omega) (by omega)]; omega
        have hroom:∀ x:Int,addI row (x :: []) = some (row ++ [x]):=fun x => addI_ok (by simp only [List.length_singleton,hr.1]; exact Nat.le_trans (show j + 1 <= 4 by omega) (by decide))
        by_cases hne:notB (eqZ i' (j:Int)) = true
        · rw [if_pos hne]
          obtain ⟨a,ha,c2,hc2,e2⟩:=A0 cc hc 3 (by omega) (by omega)
          have e2':Ae (cc,(3,())) () = some ((a:Int),c2):=e2
          simp only [e2',Option.bind_some,hroom,hadd]
          exact ⟨_,rfl,hj4,rfl,rfl,hr.snoc ⟨by omega,by omega⟩,rfl,hc2⟩
        · rw [if_neg hne]
          simp only [Option.bind_some,hroom,hadd]
          exact ⟨_,rfl,hj4,rfl,rfl,hr.snoc ⟨by omega,by omega⟩,rfl,hc⟩
      · rw [if_neg hlt]
        have:j = 4:=by
          have:¬ (j:Int) < 4:=fun hh => hlt (ltZ_iff.2 hh)
          omega
        subst this
        exact ⟨_,rfl,_,_,_,_,rfl,hr,hc⟩)
    (s:=(0,(out,([],(i,(c,())))))) ⟨rfl,rfl,⟨rfl,by simp⟩,rfl,h⟩ (by decide)
  obtain ⟨bo,k,row,c',rfl,h1,h2⟩:=hR
  exact ⟨bo,k,row,c',ho,h1,h2⟩
theorem Acf (c:Ac) (h:CurOk c):∃ l c',(l.length = 4 /\ ∀ row ∈ l,row.length = 4 /\ ∀ n ∈ row,0 <= n /\ n <= 2) /\ CurOk c' /\ Jw (c,()) () = some (l,c'):=by
  unfold Jw
  obtain ⟨o,ho,hR⟩:=A5 (A:=(Int × ((List (List Int)) × (Ac × Unit)))) (F:=Kb) 4
    (fun j s => s.1 = (j:Int) /\ (s.2.1.length = j /\ ∀ row ∈ s.2.1,Row4 4 row) /\ CurOk s.2.2.1)
    (fun o => ∃ bo i l c',o = .exit (.inl (bo,(i,(l,(c',()))))) /\ (l.length = 4 /\ ∀ row ∈ l,Row4 4 row) /\ CurOk c') (fun j s hj hI => by
      obtain ⟨i,l,cc,u⟩:=s
      obtain ⟨rfl,⟨hl,hr⟩,hc⟩:=hI
      simp only at hl hr hc
      unfold Kb
      simp only
      by_cases hlt:ltZ (j:Int) 4 = true
      · rw [if_pos hlt]
        have hj4:j < 4:=by rw [ltZ_iff] at hlt; omega
        have hadd:addZ .i64 (j:Int) 1 = ((j + 1:Nat):Int):=by rw [addZ64 (by omega) (by omega)]; omega
        obtain ⟨bo,k,row,c',e,h1,h2⟩:=W3 l (j:Int) cc hc
        have hroom:addI l (row :: []) = some (l ++ [row]):=addI_ok (by simp only [List.length_singleton,hl]; exact Nat.le_trans (show j + 1 <= 4 by omega) (by decide))
        simp only [e,Option.bind_some,hroom,hadd]
        refine ⟨_,rfl,hj4,rfl,⟨by simp [hl],fun r hm => ?_⟩,h2⟩
        rcases List.mem_append.1 hm with hm | hm
        · exact hr r hm
        · rw [List.mem_singleton.1 hm]; exact h1
      · rw [if_neg hlt]
        have:j = 4:=by
          have:¬ (j:Int) < 4:=fun hh => hlt (ltZ_iff.2 hh)
          omega
        subst this
        exact ⟨_,rfl,_,_,_,_,rfl,⟨hl,hr⟩,hc⟩)
    (s:=(0,([],(c,())))) ⟨rfl,⟨rfl,by simp⟩,h⟩ (by decide)
  obtain ⟨bo,i,l,c',rfl,⟨h1,h2⟩,h3⟩:=hR
  simp only [ho,Option.bind_some]
  exact ⟨l,c',⟨h1,fun r hr => h2 r hr⟩,h3,rfl⟩
open Go.Abs
set_option linter.unusedVariables false
set_option linter.unusedSimpArgs false
theorem Ad2 (c:Ac):∀ i:Nat,i < 6 -> Mb (c,((i:Int),())) () = some (genName i,())
  | 0,_ => rfl
  | 1,_ => rfl
  | 2,_ => rfl
  | 3,_ => rfl
  | 4,_ => rfl
  | 5,_ => rfl
  | n + 6,h => absurd h (by omega)
theorem Ze (d:Int) (cs:List Int) (k:Int) (n:Nat) (hn:n <= 2) (st:Int) (a a2:Ab) (c:Ac) (h:CurOk c) :
    ∃ bo u c',loopN (A:=(D_Mode × (Int × (Int × (Int × (Ab × (Ab × (Ac × Unit)))))))) big Jo ((d,([],(cs,()))),(k,((n:Int),(st,(a,(a2,(c,()))))))) = some (.exit (.inl (bo,((d,(u,(cs,()))),(k,((n:Int),(st,(a,(a2,(c',()))))))))) ) /\ Row4 n u /\ CurOk c':=by
  obtain ⟨o,ho,hR⟩:=A5 (A:=(D_Mode × (Int × (Int × (Int × (Ab × (Ab × (Ac × Unit)))))))) (F:=Jo) n
    (fun j s => ∃ u cc,s = ((d,(u,(cs,()))),(k,((n:Int),(st,(a,(a2,(cc,()))))))) /\ Row4 j u /\ CurOk cc)
    (fun o => ∃ bo u c',o = .exit (.inl (bo,((d,(u,(cs,()))),(k,((n:Int),(st,(a,(a2,(c',()))))))))) /\ Row4 n u /\ CurOk c') (fun j s hj hI => by
      obtain ⟨u,cc,rfl,hr,hc⟩:=hI
      unfold Jo
      simp only
      by_cases hlt:ltZ (lenI u) (n:Int) = true
      · rw [if_pos hlt]
        have hjn:j < n:=by rw [ltZ_iff,lenI_eq,hr.1] at hlt; omega
        obtain ⟨x,hx,c2,hc2,e2⟩:=A0 cc hc 3 (by omega) (by omega)
        have e2':Ae (cc,(3,())) () = some ((x:Int),c2):=e2
        have hroom:addI u ((x:Int) :: []) = some (u ++ [(x:Int)]):=addI_ok (by simp only [List.length_singleton,hr.1]; exact Nat.le_trans (show j + 1 <= 4 by omega) (by decide))
        simp only [e2',Option.bind_some,hroom]
        exact ⟨_,rfl,hjn,_,_,rfl,hr.snoc ⟨by omega,by omega⟩,hc2⟩
      · rw [if_neg hlt]
        have:j = n:=by
          have:¬ (j:Int) < n:=fun hh => hlt (ltZ_iff.2 (by rw [lenI_eq,hr.1]; exact hh))
          omega
        subst this
        exact ⟨_,rfl,_,_,_,rfl,hr,hc⟩)
    (s:=((d,([],(cs,()))),(k,((n:Int),(st,(a,(a2,(c,())))))))) ⟨_,_,rfl,⟨rfl,by simp⟩,h⟩ (Nat.lt_of_le_of_lt hn (by decide))
  obtain ⟨bo,u,c',rfl,h1,h2⟩:=hR
  exact ⟨bo,u,c',ho,h1,h2⟩
theorem Zb (d:Int) (us:List Int) (k:Int) (rs:Int) (n:Nat) (hn:n <= 2) (a a2:Ab) (c:Ac) (h:CurOk c) :
    ∃ bo u c',loopN (A:=(D_Mode × (Int × (Int × (Int × (Ab × (Ab × (Ac × Unit)))))))) big Ji ((d,(us,([],()))),(k,(rs,((n:Int),(a,(a2,(c,()))))))) = some (.exit (.inl (bo,((d,(us,(u,()))),(k,(rs,((n:Int),(a,(a2,(c',()))))))))) ) /\ Row4 n u /\ CurOk c':=by
  obtain ⟨o,ho,hR⟩:=A5 (A:=(D_Mode × (Int × (Int × (Int × (Ab × (Ab × (Ac × Unit)))))))) (F:=Ji) n
    (fun j s => ∃ u cc,s = ((d,(us,(u,()))),(k,(rs,((n:Int),(a,(a2,(cc,()))))))) /\ Row4 j u /\ CurOk cc)
    (fun o => ∃ bo u c',o = .exit (.inl (bo,((d,(us,(u,()))),(k,(rs,((n:Int),(a,(a2,(c',()))))))))) /\ Row4 n u /\ CurOk c') (fun j s hj hI => by
      obtain ⟨u,cc,rfl,hr,hc⟩:=hI
      unfold Ji
      simp only
      by_cases hlt:ltZ (lenI u) (n:Int) = true
      · rw [if_pos hlt]
        have hjn:j < n:=by rw [ltZ_iff,lenI_eq,hr.1] at hlt; omega
        obtain ⟨x,hx,c2,hc2,e2⟩:=A0 cc hc 3 (by omega) (by omega)
        have e2':Ae (cc,(3,())) () = some ((x:Int),c2):=e2
        have hroom:addI u ((x:Int) :: []) = some (u ++ [(x:Int)]):=addI_ok (by simp only [List.length_singleton,hr.1]; exact Nat.le_trans (show j + 1 <= 4 by omega) (by decide))
        simp only [e2',Option.bind_some,hroom]
        exact ⟨_,rfl,hjn,_,_,rfl,hr.snoc ⟨by omega,by omega⟩,hc2⟩
      · rw [if_neg hlt]
        have:j = n:=by
          have:¬ (j:Int) < n:=fun hh => hlt (ltZ_iff.2 (by rw [lenI_eq,hr.1]; exact hh))
          omega
        subst this
        exact ⟨_,rfl,_,_,_,rfl,hr,hc⟩)
    (s:=((d,(us,([],()))),(k,(rs,((n:Int),(a,(a2,(c,())))))))) ⟨_,_,rfl,⟨rfl,by simp⟩,h⟩ (Nat.lt_of_le_of_lt hn (by decide))
  obtain ⟨bo,u,c',rfl,h1,h2⟩:=hR
  exact ⟨bo,u,c',ho,h1,h2⟩
theorem Aea (c:Ac) (h:CurOk c) (i:Nat) (hi:i < 6) (r s:Nat) (hr:r <= 2) (hs:s <= 2):∃ a c',GenA r s i a /\ CurOk c' /\ K0 (c,((i:Int),((r:Int),((s:Int),())))) () = some (a,c'):=by
  unfold K0
  obtain ⟨k0,hk0,c0,hc0,e0⟩:=A0 c h 2 (by omega) (by omega)
  obtain ⟨k1,hk1,c1,hc1,e1⟩:=A0 c0 hc0 4 (by omega) (by omega)
  have e0':Ae (c,(2,())) () = some ((k0:Int),c0):=e0
  have e1':Ae (c0,(4,())) () = some ((k1:Int),c1):=e1
  have eq:quoZ .i64 (k1:Int) 2 = some ((k1 / 2:Nat):Int):=by
    unfold quoZ
    rw [if_neg (by decide)]
    have:((k1:Int).tdiv 2) = ((k1 / 2:Nat):Int):=rfl
    rw [this]
    exact congrArg some (wrap64 (by omega) (by omega))
  obtain ⟨m,hm⟩:∃ m,m = 1 + k1 / 2:=⟨_,rfl⟩
  have hm2:m <= 2:=by omega
  have hadd:addZ .i64 1 ((k1 / 2:Nat):Int) = (m:Int):=by rw [addZ64 (by omega) (by omega)]; omega
  simp only [Ad2 c i hi,e0',Option.bind_some,e1',eq,hadd]
  obtain ⟨a2,ha2⟩:∃ a2:Ab,a2 = ([],(0,([],()))):=⟨_,rfl⟩
  obtain ⟨o,ho,hR⟩:=A5 (A:=(Int × (Int × (Int × (Ab × (Ab × (Ac × Unit))))))) (F:=K2) m
    (fun j st => ∃ ms cc,st = (((m:Int) - (j:Int)),((r:Int),((s:Int),((genName i,((k0:Int),(ms,()))),(a2,(cc,())))))) /\ ms.length = j /\ (∀ x ∈ ms,GenM r s x) /\ CurOk cc)
    (fun o => ∃ bo k ms c',o = .exit (.inl (bo,(k,((r:Int),((s:Int),((genName i,((k0:Int),(ms,()))),(a2,(c',())))))))) /\ ms.length = m /\ (∀ x ∈ ms,GenM r s x) /\ CurOk c') (fun j st hj hI => by
      obtain ⟨ms,cc,rfl,hl,hg,hc⟩:=hI
      unfold K2
      simp only
      by_cases hlt:ltZ 0 ((m:Int) - (j:Int)) = true
      · rw [if_pos hlt]
        have hjm:j < m:=by rw [ltZ_iff] at hlt; omega
        obtain ⟨x,hx,c2,hc2,e2⟩:=A0 cc hc 4 (by omega) (by omega)
        have e2':Ae (cc,(4,())) () = some ((x:Int),c2):=e2
        have hd:addZ .i64 1 (x:Int) = 1 + (x:Int):=addZ64 (by omega) (by omega)
        obtain ⟨b3,u,c3,e3,hu,hc3⟩:=Ze (1 + (x:Int)) [] ((m:Int) - (j:Int)) r hr (s:Int) (genName i,((k0:Int),(ms,()))) a2 c2 hc2
        obtain ⟨b4,w,c4,e4,hw,hc4⟩:=Zb (1 + (x:Int)) u ((m:Int) - (j:Int)) (r:Int) s hs (genName i,((k0:Int),(ms,()))) a2 c3 hc3
        have hsub:subZ .i64 ((m:Int) - (j:Int)) 1 = (m:Int) - ((j + 1:Nat):Int):=by rw [subZ64 (by omega) (by omega)]; omega
        have hroom:∀ y:D_Mode,addI ms (y :: []) = some (ms ++ [y]):=fun y => addI_ok (by simp only [List.length_singleton,hl]; exact Nat.le_trans (show j + 1 <= 4 by omega) (by decide))
        simp only [e2',Option.bind_some,hd,e3,e4,hroom,hsub]
        refine ⟨_,rfl,hjm,_,_,rfl,by simp [hl],fun y hy => ?_,hc4⟩
        rcases List.mem_append.1 hy with hy | hy
        · exact hg y hy
        · rw [List.mem_singleton.1 hy]
          exact ⟨⟨by simp only; omega,by simp only; omega⟩,hu.1,hu.2,hw.1,hw.2⟩
      · rw [if_neg hlt]
        have:j = m:=by
          have:¬ (0:Int) < (m:Int) - j:=fun hh => hlt (ltZ_iff.2 hh)
          omega
        subst this
        exact ⟨_,rfl,_,_,_,_,rfl,hl,hg,hc⟩)
    (s:=((m:Int),((r:Int),((s:Int),((genName i,((k0:Int),([],()))),(a2,(c1,()))))))) ⟨[],c1,by simp,rfl,by simp,hc1⟩ (Nat.lt_of_le_of_lt hm2 (by decide))
  obtain ⟨bo,k,ms,c',rfl,h1,h2,h3⟩:=hR
  rw [ha2] at ho
  rw [ho]
  exact ⟨_,c',⟨rfl,⟨by simp only; omega,by simp only; omega⟩,⟨by simp only; omega,by simp only; omega⟩,h2⟩,h3,rfl⟩
open Go.Abs
set_option linter.unusedVariables false
set_option linter.unusedSimpArgs false
theorem Y8 (most dl:Int) (p2:Aa) (m:Nat) (hm2:m <= 2) (c:Ac) (h:CurOk c) :
    ∃ bo k rs c',loopN (A:=(Int × (Int × (Aa × (Aa × (Ac × Unit)))))) big Jn ((m:Int),(most,((dl,([],([],([],([],()))))),(p2,(c,()))))) = some (.exit (.inl (bo,(k,(most,((dl,([],([],(rs,([],()))))),(p2,(c',())))))))) /\ rs.length = m /\ (∀ x ∈ rs,GenR x) /\ CurOk c':=by
  obtain ⟨o,ho,hR⟩:=A5 (A:=(Int × (Int × (Aa × (Aa × (Ac × Unit)))))) (F:=Jn) m
    (fun j st => ∃ rs cc,st = ((m:Int) - (j:Int),(most,((dl,([],([],(rs,([],()))))),(p2,(cc,()))))) /\ rs.length = j /\ (∀ x ∈ rs,GenR x) /\ CurOk cc)
    (fun o => ∃ bo k rs c',o = .exit (.inl (bo,(k,(most,((dl,([],([],(rs,([],()))))),(p2,(c',()))))))) /\ rs.length = m /\ (∀ x ∈ rs,GenR x) /\ CurOk c') (fun j st hj hI => by
      obtain ⟨rs,cc,rfl,hl,hg,hc⟩:=hI
      unfold Jn
      simp only
      by_cases hlt:ltZ 0 ((m:Int) - (j:Int)) = true
      · rw [if_pos hlt]
        have hjm:j < m:=by rw [ltZ_iff] at hlt; omega
        obtain ⟨l,c2,hl1,hl2,hc2,e2⟩:=Ado cc hc
        obtain ⟨b,c3,hc3,e3⟩:=Ny c2 hc2 3 (by omega) (by omega)
        have e3':B8 (c2,(3,())) () = some (b,c3):=e3
        obtain ⟨t,c4,ht,hc4,e4⟩:=Acf c3 hc3
        have hsub:subZ .i64 ((m:Int) - (j:Int)) 1 = (m:Int) - ((j + 1:Nat):Int):=by rw [subZ64 (by omega) (by omega)]; omega
        have hroom:∀ y:Af,addI rs (y :: []) = some (rs ++ [y]):=fun y => addI_ok (by simp only [List.length_singleton,hl]; exact Nat.le_trans (show j + 1 <= 4 by omega) (by decide))
        have hin:∀ y:Af,GenR y -> ∀ x ∈ rs ++ [y],GenR x:=fun y hy x hx => by
          rcases List.mem_append.1 hx with hx | hx
          · exact hg x hx
          · rw [List.mem_singleton.1 hx]; exact hy
        cases b with
        | true =>
          simp only [e2,e3',e4,Option.bind_some,if_true,hroom,hsub]
          exact ⟨_,rfl,hjm,_,_,rfl,by simp [hl],hin _ ⟨hl1,hl2,.inr ht⟩,hc4⟩
        | false =>
          simp only [e2,e3',e4,Option.bind_some,Bool.false_eq_true,if_false,hroom,hsub]
          exact ⟨_,rfl,hjm,_,_,rfl,by simp [hl],hin _ ⟨hl1,hl2,.inl rfl⟩,hc3⟩
      · rw [if_neg hlt]
        have:j = m:=by
          have:¬ (0:Int) < (m:Int) - j:=fun hh => hlt (ltZ_iff.2 hh)
          omega
        subst this
        exact ⟨_,rfl,_,_,_,_,rfl,hl,hg,hc⟩)
    (s:=((m:Int),(most,((dl,([],([],([],([],()))))),(p2,(c,())))))) ⟨[],c,by simp,rfl,by simp,h⟩ (Nat.lt_of_le_of_lt hm2 (by decide))
  obtain ⟨bo,k,rs,c',rfl,h1,h2,h3⟩:=hR
  exact ⟨bo,k,rs,c',ho,h1,h2,h3⟩
theorem Zc (dl:Int) (ks:List D_Link) (rs:List Af) (ss:List Int) (hr:rs.length <= 2) (hs:ss.length <= 2) (p2:Aa) (m:Nat) (hm:m <= 6) (c:Ac) (h:CurOk c) :
    ∃ bo k acs c',loopN (A:=(Int × (Aa × (Aa × (Ac × Unit))))) big Hv ((m:Int),((dl,([],(ks,(rs,(ss,()))))),(p2,(c,())))) = some (.exit (.inl (bo,(k,((dl,(acs,(ks,(rs,(ss,()))))),(p2,(c',()))))))) /\ acs.length = m /\ (∀ i (hi:i < acs.length),GenA rs.length ss.length i acs[i]) /\ CurOk c':=by
  obtain ⟨o,ho,hR⟩:=A5 (A:=(Int × (Aa × (Aa × (Ac × Unit))))) (F:=Hv) m
    (fun j st => ∃ acs cc,st = ((m:Int) - (j:Int),((dl,(acs,(ks,(rs,(ss,()))))),(p2,(cc,())))) /\ acs.length = j /\ (∀ i (hi:i < acs.length),GenA rs.length ss.length i acs[i]) /\ CurOk cc)
    (fun o => ∃ bo k acs c',o = .exit (.inl (bo,(k,((dl,(acs,(ks,(rs,(ss,()))))),(p2,(c',())))))) /\ acs.length = m /\ (∀ i (hi:i < acs.length),GenA rs.length ss.length i acs[i]) /\ CurOk c') (fun j st hj hI => by
      obtain ⟨acs,cc,rfl,hl,hg,hc⟩:=hI
      unfold Hv
      simp only
      by_cases hlt:ltZ 0 ((m:Int) - (j:Int)) = true
      · rw [if_pos hlt]
        have hjm:j < m:=by rw [ltZ_iff] at hlt; omega
        obtain ⟨a,c2,ha,hc2,e2⟩:=Aea cc hc j (by omega) rs.length ss.length hr hs
        have hsub:subZ .i64 ((m:Int) - (j:Int)) 1 = (m:Int) - ((j + 1:Nat):Int):=by rw [subZ64 (by omega) (by omega)]; omega
        have hroom:addI acs (a :: []) = some (acs ++ [a]):=addI_ok (by simp only [List.length_singleton,hl]; exact Nat.le_trans (show j + 1 <= 8 by omega) (by decide))
        simp only [lenI_eq,hl,e2,Option.bind_some,hroom,hsub]
        refine ⟨_,rfl,hjm,_,_,rfl,by simp [hl],fun i hi => ?_,hc2⟩
        by_cases hil:i < acs.length
        · rw [List.getElem_append_left hil]; exact hg i hil
        · have:i = acs.length:=by simp at hi; omega
          subst this
          rw [List.getElem_append_right (Nat.le_refl _)]
          simp only [Nat.sub_self,List.getElem_cons_zero]
          rw [hl]; exact ha
      · rw [if_neg hlt]
        have:j = m:=by
          have:¬ (0:Int) < (m:Int) - j:=fun hh => hlt (ltZ_iff.2 hh)
          omega
        subst this
        exact ⟨_,rfl,_,_,_,_,rfl,hl,hg,hc⟩)
    (s:=((m:Int),((dl,([],(ks,(rs,(ss,()))))),(p2,(c,()))))) ⟨[],c,by simp,rfl,by simp,h⟩ (Nat.lt_of_le_of_lt hm (by decide))
  obtain ⟨bo,k,acs,c',rfl,h1,h2,h3⟩:=hR
  exact ⟨bo,k,acs,c',ho,h1,h2,h3⟩
open Go.Abs
set_option linter.unusedVariables false
set_option linter.unusedSimpArgs false
theorem Yx (dl:Int) (acs:List Ab) (rs:List Af) (ss:List Int) (n:Nat) (hn:n <= 6) (p2:Aa) (m:Nat) (hm:m <= 3) (c:Ac) (h:CurOk c) :
    ∃ bo k n' ks c',loopN (A:=(Int × (Int × (Aa × (Aa × (Ac × Unit)))))) big Hy ((m:Int),((n:Int),((dl,(acs,([],(rs,(ss,()))))),(p2,(c,()))))) = some (.exit (.inl (bo,(k,(n',((dl,(acs,(ks,(rs,(ss,()))))),(p2,(c',())))))))) /\ ks.length <= 3 /\ (∀ x ∈ ks,linkB (n:Int) x = true) /\ CurOk c':=by
  obtain ⟨o,ho,hR⟩:=A5 (A:=(Int × (Int × (Aa × (Aa × (Ac × Unit)))))) (F:=Hy) m
    (fun j st => ∃ ks cc,st = ((m:Int) - (j:Int),((n:Int),((dl,(acs,(ks,(rs,(ss,()))))),(p2,(cc,()))))) /\ ks.length = j /\ (∀ x ∈ ks,linkB (n:Int) x = true) /\ CurOk cc)
    (fun o => ∃ bo k n' ks c',o = .exit (.inl (bo,(k,(n',((dl,(acs,(ks,(rs,(ss,()))))),(p2,(c',()))))))) /\ ks.length <= 3 /\ (∀ x ∈ ks,linkB (n:Int) x = true) /\ CurOk c') (fun j st hj hI => by
      obtain ⟨ks,cc,rfl,hl,hg,hc⟩:=hI
      unfold Hy
      simp only
      by_cases hlt:ltZ 0 ((m:Int) - (j:Int)) = true
      · rw [if_pos hlt]
        have hjm:j < m:=by rw [ltZ_iff] at hlt; omega
        simp only [Option.bind_some]
        by_cases h2:ltZ 1 (n:Int) = true
        · rw [if_pos h2]
          have hn2:2 <= n:=by rw [ltZ_iff] at h2; omega
          obtain ⟨a,ha,c2,hc2,e2⟩:=A0 cc hc (n - 1) (by omega) (by omega)
          obtain ⟨b,hb,c3,hc3,e3⟩:=A0 c2 hc2 (n - 1 - a) (by omega) (by omega)
          obtain ⟨q,c4,hc4,e4⟩:=Ny c3 hc3 3 (by omega) (by omega)
          obtain ⟨lg,hlg,c5,hc5,e5⟩:=A0 c4 hc4 3 (by omega) (by omega)
          obtain ⟨q2,c6,hc6,e6⟩:=Ny c5 hc5 6 (by omega) (by omega)
          obtain ⟨bk,hbk,c7,hc7,e7⟩:=A0 c6 hc6 9 (by omega) (by omega)
          have e4':B8 (c3,(3,())) () = some (q,c4):=e4
          have e5':Ae (c4,(3,())) () = some ((lg:Int),c5):=e5
          have e6':B8 (c5,(6,())) () = some (q2,c6):=e6
          have e7':Ae (c6,(9,())) () = some ((bk:Int),c7):=e7
          have s1:subZ .i64 (n:Int) 1 = ((n - 1:Nat):Int):=by rw [subZ64 (by omega) (by omega)]; omega
          have s2:subZ .i64 ((n - 1:Nat):Int) (a:Int) = ((n - 1 - a:Nat):Int):=by rw [subZ64 (by omega) (by omega)]; omega
          have s3:addZ .i64 (addZ .i64 (a:Int) 1) (b:Int) = (a:Int) + 1 + b:=by rw [addZ64 (x:=(a:Int)) (by omega) (by omega),addZ64 (by omega) (by omega)]
          have s4:subZ .i64 (-4) (bk:Int) = -4 - (bk:Int):=subZ64 (by omega) (by omega)
          have hsub:subZ .i64 ((m:Int) - (j:Int)) 1 = (m:Int) - ((j + 1:Nat):Int):=by rw [subZ64 (by omega) (by omega)]; omega
          have hroom:∀ y:D_Link,addI ks (y :: []) = some (ks ++ [y]):=fun y => addI_ok (by simp only [List.length_singleton,hl]; exact Nat.le_trans (show j + 1 <= 8 by omega) (by decide))
          have hin:∀ y:D_Link,linkB (n:Int) y = true -> ∀ x ∈ ks ++ [y],linkB (n:Int) x = true:=fun y hy x hx => by
            rcases List.mem_append.1 hx with hx | hx
            · exact hg x hx
            · rw [List.mem_singleton.1 hx]; exact hy
          have mk:∀ (x y:Int) (f:Bool) (z:Int),0 <= x -> x < n -> 0 <= y -> y < n -> x ≠ y -> -60 <= z -> z <= 60 -> linkB (n:Int) (x,(y,(f,(z,())))) = true:=fun x y f z a1 a2 a3 a4 a5 a6 a7 => by
            unfold linkB
            simp only [s1,Bool.and_eq_true]
            have:eqZ x y = false:=by rw [Bool.eq_false_iff,Ne,eqZ_iff]; exact a5
            exact ⟨⟨⟨inB_iff.2 (by omega),inB_iff.2 (by omega)⟩,by rw [this]; rfl⟩,inB_iff.2 ⟨a6,a7⟩⟩
          cases q2 with
          | true =>
            simp only [s1,e2,Option.bind_some,s2,e3,e4',e5',e6',e7',s3,s4,hroom,hsub,if_true]
            exact ⟨_,rfl,hjm,_,_,rfl,by simp [hl],hin _ (mk _ _ _ _ (by omega) (by omega) (by omega) (by omega) (by omega) (by omega) (by omega)),hc7⟩
          | false =>
            simp only [s1,e2,Option.bind_some,s2,e3,e4',e5',e6',e7',s3,s4,hroom,hsub,Bool.false_eq_true,if_false]
            exact ⟨_,rfl,hjm,_,_,rfl,by simp [hl],hin _ (mk _ _ _ _ (by omega) (by omega) (by omega) (by omega) (by omega) (by omega) (by omega)),hc6⟩
        · rw [if_neg h2]
          exact ⟨_,rfl,_,_,_,_,_,rfl,by omega,hg,hc⟩
      · rw [if_neg hlt]
        simp only [Option.bind_some,Bool.false_eq_true,if_false]
        exact ⟨_,rfl,_,_,_,_,_,rfl,by omega,hg,hc⟩)
    (s:=((m:Int),((n:Int),((dl,(acs,([],(rs,(ss,()))))),(p2,(c,())))))) ⟨[],c,by simp,rfl,by simp,h⟩ (Nat.lt_of_le_of_lt hm (by decide))
  obtain ⟨bo,k,n',ks,c',rfl,h1,h2,h3⟩:=hR
  exact ⟨bo,k,n',ks,c',ho,h1,h2,h3⟩
theorem Aek (c:Ac) (h:CurOk c) (most:Nat) (h0:1 <= most) (h6:most <= 6):∃ p c',GenP most p /\ CurOk c' /\ Jr (c,((most:Int),())) () = some (p,c'):=by
  unfold Jr
  obtain ⟨k0,hk0,c0,hc0,e0⟩:=A0 c h 12 (by omega) (by omega)
  obtain ⟨k1,hk1,c1,hc1,e1⟩:=A0 c0 hc0 4 (by omega) (by omega)
  have e0':Ae (c,(12,())) () = some ((k0:Int),c0):=e0
  have e1':Ae (c0,(4,())) () = some ((k1:Int),c1):=e1
  have eq:quoZ .i64 (k1:Int) 2 = some ((k1 / 2:Nat):Int):=by
    unfold quoZ
    rw [if_neg (by decide)]
    have:((k1:Int).tdiv 2) = ((k1 / 2:Nat):Int):=rfl
    rw [this]
    exact congrArg some (wrap64 (by omega) (by omega))
  obtain ⟨m,hm⟩:∃ m,m = 1 + k1 / 2:=⟨_,rfl⟩
  have hadd:addZ .i64 1 ((k1 / 2:Nat):Int) = (m:Int):=by rw [addZ64 (by omega) (by omega)]; omega
  have hdl:addZ .i64 12 (k0:Int) = 12 + (k0:Int):=addZ64 (by omega) (by omega)
  obtain ⟨b2,i2,rs,c2,e2,hr1,hr2,hc2⟩:=Y8 (most:Int) (12 + (k0:Int)) (0,([],([],([],([],()))))) m (by omega) c1 hc1
  obtain ⟨q,c3,hc3,e3⟩:=Ny c2 hc2 3 (by omega) (by omega)
  have e3':B8 (c2,(3,())) () = some (q,c3):=e3
  obtain ⟨k4,hk4,c4,hc4,e4⟩:=A0 c3 hc3 6 (by omega) (by omega)
  have e4':Ae (c3,(6,())) () = some ((k4:Int),c4):=e4
  have rest:∀ (ss:List Int) (cc:Ac),CurOk cc -> ss.length <= 1 -> (∀ x ∈ ss,0 <= x /\ x <= 5) -> ∃ p c' k5 b6 i6 acs c6 c5 k7 c7 b8 i8 n8 ks,GenP most p /\ CurOk c' /\
      Ae (cc,((most:Int),())) () = some ((k5:Int),c5) /\
      loopN (A:=(Int × (Aa × (Aa × (Ac × Unit))))) big Hv ((addZ .i64 1 (k5:Int)),((12 + (k0:Int),([],([],(rs,(ss,()))))),((0,([],([],([],([],()))))),(c5,())))) = some (.exit (.inl (b6,(i6,((12 + (k0:Int),(acs,([],(rs,(ss,()))))),((0,([],([],([],([],()))))),(c6,()))))))) /\
      Ae (c6,(4,())) () = some ((k7:Int),c7) /\
      loopN (A:=(Int × (Int × (Aa × (Aa × (Ac × Unit)))))) big Hy ((k7:Int),((lenI acs),((12 + (k0:Int),(acs,([],(rs,(ss,()))))),((0,([],([],([],([],()))))),(c7,()))))) = some (.exit (.inl (b8,(i8,(n8,((12 + (k0:Int),(acs,(ks,(rs,(ss,()))))),((0,([],([],([],([],()))))),(c',())))))))) /\
      p = (12 + (k0:Int),(acs,(ks,(rs,(ss,()))))):=fun ss cc hcc hs1 hs2 => by
    obtain ⟨k5,hk5,c5,hc5,e5⟩:=A0 cc hcc most (by omega) (by omega)
    have ha:addZ .i64 1 (k5:Int) = ((1 + k5:Nat):Int):=by rw [addZ64 (by omega) (by omega)]; omega
    obtain ⟨b6,i6,acs,c6,e6,ha1,ha2,hc6⟩:=Zc (12 + (k0:Int)) [] rs ss (by omega) (by omega) (0,([],([],([],([],()))))) (1 + k5) (by omega) c5 hc5
    obtain ⟨k7,hk7,c7,hc7,e7⟩:=A0 c6 hc6 4 (by omega) (by omega)
    obtain ⟨b8,i8,n8,ks,c8,e8,hk1',hk2',hc8⟩:=Yx (12 + (k0:Int)) acs rs ss acs.length (by omega) (0,([],([],([],([],()))))) k7 (by omega) c7 hc7
    exact ⟨_,c8,k5,b6,i6,acs,c6,c5,k7,c7,b8,i8,n8,ks,⟨by simp only; omega,by simp only; omega,hr2,hs1,hs2,by simp only; omega,ha2,hk1',hk2'⟩,hc8,e5,by rw [ha]; exact e6,e7,by rw [lenI_eq]; exact e8,rfl⟩
  cases q with
  | true =>
    obtain ⟨p,c',k5,b6,i6,acs,c6,c5,k7,c7,b8,i8,n8,ks,hp,hc',f1,f2,f3,f4,rfl⟩:=rest [(k4:Int)] c4 hc4 (by simp) (fun x hx => by rw [List.mem_singleton.1 hx]; omega)
    simp only [e0',Option.bind_some,e1',eq,hadd,hdl,e2,e3',e4',if_true,f1,f2,f3,f4]
    exact ⟨_,_,hp,hc',rfl⟩
  | false =>
    obtain ⟨p,c',k5,b6,i6,acs,c6,c5,k7,c7,b8,i8,n8,ks,hp,hc',f1,f2,f3,f4,rfl⟩:=rest [] c3 hc3 (by simp) (fun x hx => by simp at hx)
    simp only [e0',Option.bind_some,e1',eq,hadd,hdl,e2,e3',Bool.false_eq_true,if_false,f1,f2,f3,f4]
    exact ⟨_,_,hp,hc',rfl⟩
theorem GenP.mono {a b:Nat} (hab:a <= b) {p:Aa} (h:GenP a p):GenP b p:=⟨h.dl,h.rl,h.r,h.sl,h.s,⟨h.al.1,by have:=h.al.2; omega⟩,h.a,h.kl,h.k⟩
theorem Xi (b:List Int) (hb:b.length <= 1048576):∃ p,GenP 3 p /\ Gx (b,()) () = some (p,()):=by
  unfold Gx
  obtain ⟨c,hc,e⟩:=S4 b hb
  obtain ⟨p,c',hp,hc',e2⟩:=Aek c hc 3 (by omega) (by omega)
  have e2':Jr (c,(3,())) () = some (p,c'):=e2
  simp only [e,Option.bind_some,e2']
  exact ⟨_,hp,rfl⟩
open Go.Abs
set_option linter.unusedVariables false
set_option linter.unusedSimpArgs false
structure GenS (acs:List Ab) (j:Nat) (st md:List Int):Prop where
  s1:st.length = j
  m1:md.length = j
  s:∀ x ∈ st,0 <= x /\ x <= 24
  m:∀ i (h1:i < md.length) (h2:i < acs.length),0 <= md[i] /\ md[i] < (acs[i].2.2.1.length:Int)
theorem Ad7 (c:Ac) (h:CurOk c) (p:Aa) (hp:GenP 6 p):∃ st md c',GenS p.2.1 p.2.1.length st md /\ CurOk c' /\ Ku (c,(p,())) () = some ((st,(md,())),c'):=by
  unfold Ku
  obtain ⟨acs,hacs⟩:∃ acs,acs = p.2.1:=⟨_,rfl⟩
  have hal:=hp.al
  have hml:∀ i (hi:i < acs.length),1 <= acs[i].2.2.1.length /\ acs[i].2.2.1.length <= 2:=fun i hi => by subst hacs; exact (hp.a i hi).ml
  simp only
  rw [<- hacs] at hal ⊢
  obtain ⟨s2,hs2⟩:∃ s2:Ag,s2 = ([],([],())):=⟨_,rfl⟩
  obtain ⟨o,ho,hR⟩:=A5 (A:=(Int × (Int × (Int × ((List Ab) × (Ag × (Ag × (Ac × Unit)))))))) (F:=Ks) acs.length
    (fun j t => ∃ a st md cc,t = (a,((j:Int),((acs.length:Int),(acs,((st,(md,())),(s2,(cc,()))))))) /\ (0 <= a /\ a <= 4 * j) /\ GenS acs j st md /\ CurOk cc)
    (fun o => ∃ bo a i n l st md c',o = .exit (.inl (bo,(a,(i,(n,(l,((st,(md,())),(s2,(c',()))))))))) /\ GenS acs acs.length st md /\ CurOk c') (fun j t hj hI => by
      obtain ⟨a,st,md,cc,rfl,ha,hg,hc⟩:=hI
      unfold Ks
      simp only
      by_cases hlt:ltZ (j:Int) (acs.length:Int) = true
      · rw [if_pos hlt]
        have hjl:j < acs.length:=by rw [ltZ_iff] at hlt; omega
        have hgt:getI acs (j:Int) = some acs[j]:=by simp [getI,hjl]
        obtain ⟨q,c1,hc1,e1⟩:=Ny cc hc 3 (by omega) (by omega)
        have e1':B8 (cc,(3,())) () = some (q,c1):=e1
        obtain ⟨k,hk,c2,hc2,e2⟩:=A0 c1 hc1 12 (by omega) (by omega)
        have e2':Ae (c1,(12,())) () = some ((k:Int),c2):=e2
        have hroomS:∀ x:Int,addI st (x :: []) = some (st ++ [x]):=fun x => addI_ok (by simp only [List.length_singleton,hg.s1]; exact Nat.le_trans (show j + 1 <= 8 by omega) (by decide))
        have hroomM:∀ x:Int,addI md (x :: []) = some (md ++ [x]):=fun x => addI_ok (by simp only [List.length_singleton,hg.m1]; exact Nat.le_trans (show j + 1 <= 8 by omega) (by decide))
        have hadd:addZ .i64 (j:Int) 1 = ((j + 1:Nat):Int):=by rw [addZ64 (by omega) (by omega)]; omega
        have key:∀ (x:Int) (d:Ac),0 <= x -> x <= 24 -> CurOk d -> ∃ kk d1 k3 d2,CurOk d2 /\ Ae (d,((lenI acs[j].2.2.1),())) () = some (kk,d1) /\ Ae (d1,(5,())) () = some ((k3:Int),d2) /\ (0 <= k3 /\ k3 <= 4) /\ GenS acs (j + 1) (st ++ [x]) (md ++ [kk]):=fun x d hx1 hx2 hd => by
          have hm:=hml j hjl
          obtain ⟨kk,hkk,d1,hd1,f1⟩:=A0 d hd acs[j].2.2.1.length (by omega) (by omega)
          obtain ⟨k3,hk3,d2,hd2,f2⟩:=A0 d1 hd1 5 (by omega) (by omega)
          refine ⟨kk,d1,k3,d2,hd2,by rw [lenI_eq]; exact f1,f2,by omega,⟨by simp [hg.s1],by simp [hg.m1],fun y hy => ?_,fun i h1 h2 => ?_⟩⟩
          · rcases List.mem_append.1 hy with hy | hy
            · exact hg.s y hy
            · rw [List.mem_singleton.1 hy]; exact ⟨hx1,hx2⟩
          · by_cases hi:i < md.length
            · rw [List.getElem_append_left hi]; exact hg.m i hi h2
            · have hmj:=hg.m1
              have:i = j:=by simp at h1; omega
              subst this
              rw [List.getElem_append_right (by omega)]
              simp only [hmj,Nat.sub_self,List.getElem_cons_zero]
              omega
        cases q with
        | true =>
          obtain ⟨kk,d1,k3,d2,hd2,f1,f2,h3,hG⟩:=key (k:Int) c2 (by omega) (by omega) hc2
          have hsum:addZ .i64 a k3 = a + k3:=addZ64 (by omega) (by omega)
          simp only [hgt,e1',e2',Option.bind_some,if_true,hroomS,f1,hroomM,f2,hadd,hsum]
          exact ⟨_,rfl,hjl,_,_,_,_,rfl,by omega,hG,hd2⟩
        | false =>
          obtain ⟨kk,d1,k3,d2,hd2,f1,f2,h3,hG⟩:=key a c1 (by omega) (by omega) hc1
          have hsum:addZ .i64 a k3 = a + k3:=addZ64 (by omega) (by omega)
          simp only [hgt,e1',Option.bind_some,Bool.false_eq_true,if_false,hroomS,f1,hroomM,f2,hadd,hsum]
          exact ⟨_,rfl,hjl,_,_,_,_,rfl,by omega,hG,hd2⟩
      · rw [if_neg hlt]
        have:j = acs.length:=by
          have:¬ (j:Int) < acs.length:=fun hh => hlt (ltZ_iff.2 hh)
          omega
        subst this
        exact ⟨_,rfl,_,_,_,_,_,_,_,_,rfl,hg,hc⟩)
    (s:=(0,(0,((acs.length:Int),(acs,(([],([],())),(s2,(c,())))))))) ⟨0,[],[],c,rfl,by omega,⟨rfl,rfl,by simp,fun i h1 _ => by simp at h1⟩,h⟩ (Nat.lt_of_le_of_lt hal.2 (by decide))
  obtain ⟨bo,a,i,n,l,st,md,c',rfl,h1,h2⟩:=hR
  rw [hs2] at ho
  simp only [lenI_eq]
  rw [ho]
  exact ⟨st,md,c',h1,h2,rfl⟩
theorem Zt (b:List Int) (hb:b.length <= 1048576) (p:Aa) (hp:GenP 6 p):∃ st md,GenS p.2.1 p.2.1.length st md /\ Iz (b,(p,())) () = some ((st,(md,())),()):=by
  unfold Iz
  obtain ⟨c,hc,e⟩:=S4 b hb
  obtain ⟨st,md,c',hg,hc',e2⟩:=Ad7 (c.1,(c.2.1,((addZ .i64 c.2.2.1 11),c.2.2.2))) hc p hp
  simp only [e,Option.bind_some,e2]
  exact ⟨st,md,hg,rfl⟩
open Go.Abs
set_option linter.unusedVariables false
set_option linter.unusedSimpArgs false
/-- a literal over a project -/
structure GenL (p:Aa) (l:An) (i v:Nat):Prop where
  ha:l.2.1 = (i:Int)
  hi:i < p.2.1.length
  hv:l.2.2.1 = (v:Int)
  hk:((l.1 = 1 \/ l.1 = 2) /\ v <= 23) \/ ((l.1 = 3 \/ l.1 = 4) /\ ∃ h:i < p.2.1.length,v < p.2.1[i].2.2.1.length)
theorem Aet (c:Ac) (hc:CurOk c) (p:Aa) (hP:GenP 6 p):∃ l i v c',GenL p l i v /\ CurOk c' /\ Kt (c,(p,())) () = some (l,c'):=by
  have hal:=hP.al
  obtain ⟨a,ha,c1,hc1,e1⟩:=A0 c hc p.2.1.length (by omega) (by omega)
  obtain ⟨q,c2,hc2,e2⟩:=Ny c1 hc1 4 (by omega) (by omega)
  have e2':B8 (c1,(4,())) () = some (q,c2):=e2
  obtain ⟨k,hk,c3,hc3,e3⟩:=A0 c2 hc2 2 (by omega) (by omega)
  have e3':Ae (c2,(2,())) () = some ((k:Int),c3):=e3
  have hml:=(hP.a a ha).ml
  unfold Kt
  simp only [lenI_eq,e1,Option.bind_some,e2',e3']
  cases q with
  | true =>
    obtain ⟨v,hv,c4,hc4,e4⟩:=A0 c3 hc3 p.2.1[a].2.2.1.length (by omega) (by omega)
    have hs:addZ .i64 3 (k:Int) = 3 + (k:Int):=addZ64 (by omega) (by omega)
    simp only [if_true,getI_lt ha,Option.bind_some,e4,hs]
    exact ⟨_,a,v,c4,⟨rfl,ha,rfl,.inr ⟨by simp only; omega,ha,hv⟩⟩,hc4,rfl⟩
  | false =>
    obtain ⟨v,hv,c4,hc4,e4⟩:=A0 c3 hc3 10 (by omega) (by omega)
    have e4':Ae (c3,(10,())) () = some ((v:Int),c4):=e4
    have hs:addZ .i64 1 (k:Int) = 1 + (k:Int):=addZ64 (by omega) (by omega)
    simp only [Bool.false_eq_true,if_false,Option.bind_some,e4',hs]
    exact ⟨_,a,v,c4,⟨rfl,ha,rfl,.inl ⟨by simp only; omega,by omega⟩⟩,hc4,rfl⟩
theorem Adv (b:List Int) (hb:b.length <= 1048576) (p:Aa) (hP:GenP 6 p) (t:Int):∃ l i v,GenL p l i v /\ Kn (b,(p,(t,()))) () = some (l,()):=by
  unfold Kn
  obtain ⟨c,hc,e⟩:=S4 b hb
  obtain ⟨l,i,v,c',hg,hc',e2⟩:=Aet (c.1,(c.2.1,((addZ .i64 c.2.2.1 t),c.2.2.2))) hc p hP
  simp only [e,Option.bind_some,e2]
  exact ⟨l,i,v,hg,rfl⟩
open Go.Abs
set_option linter.unusedVariables false
set_option linter.unusedSimpArgs false
theorem Pt (n:Nat):((List.range n).all fun _ => true) = true:=by simp
theorem Rb (l:List Int) (u:Unit) (hl:l.length <= 1099511627776):A7 (l,l,u) () = some (true,()):=by
  have l0:=fun A:Type => allIS (A:=A) (F:=Dq) (fun i => ((i:Int),(l.length:Int),l,l,())) (0,(l.length:Int),l,l,()) l.length (fun _ => true) (Sum.inl (false,(l.length:Int),(l.length:Int),l,l,())) (false,()) rfl hl
    (fun i hi => by
      unfold Dq
      simp only [lt_yes hi,if_true,getI_lt hi,Ad,Ir,Yq,iteB,A9,Bool.false_eq_true,if_false,idxN hi hl (Nat.le_refl _)])
    (by unfold Dq; simp only [lt_no,Bool.false_eq_true,if_false])
  unfold A7
  simp only [lenI_eq,Ir,A9,Bool.false_eq_true,if_false,l0,Pt,if_true,Ad]
theorem Afw (l:List D_Link) (u:Unit) (hl:l.length <= 1099511627776):Bw (l,l,u) () = some (true,()):=by
  have l0:=fun A:Type => allIS (A:=A) (F:=B0) (fun i => ((i:Int),(l.length:Int),l,l,())) (0,(l.length:Int),l,l,()) l.length (fun _ => true) (Sum.inl (false,(l.length:Int),(l.length:Int),l,l,())) (false,()) rfl hl
    (fun i hi => by
      unfold B0
      simp only [lt_yes hi,if_true,getI_lt hi,Ad,Ir,Yq,iteB,A9,Bool.false_eq_true,if_false,idxN hi hl (Nat.le_refl _)])
    (by unfold B0; simp only [lt_no,Bool.false_eq_true,if_false])
  unfold Bw
  simp only [lenI_eq,Ir,A9,Bool.false_eq_true,if_false,l0,Pt,if_true,Ad]
theorem Afe (l:List D_Step) (u:Unit) (hl:l.length <= 1099511627776):Bv (l,l,u) () = some (true,()):=by
  have l0:=fun A:Type => allIS (A:=A) (F:=B3) (fun i => ((i:Int),(l.length:Int),l,l,())) (0,(l.length:Int),l,l,()) l.length (fun _ => true) (Sum.inl (false,(l.length:Int),(l.length:Int),l,l,())) (false,()) rfl hl
    (fun i hi => by
      unfold B3
      simp only [lt_yes hi,if_true,getI_lt hi,Ad,Ir,Yq,iteB,A9,Bool.false_eq_true,if_false,idxN hi hl (Nat.le_refl _)])
    (by unfold B3; simp only [lt_no,Bool.false_eq_true,if_false])
  unfold Bv
  simp only [lenI_eq,Ir,A9,Bool.false_eq_true,if_false,l0,Pt,if_true,Ad]
theorem Aes (l:List D_Mode) (f:(D_Mode × D_Mode × Unit) -> Option Bool) (u:Unit) (hl:l.length <= 1099511627776) (hf:∀ a ∈ l,f (a,a,()) = some true):As (l,l,f,u) () = some (true,()):=by
  have l0:=fun A:Type => allIS (A:=A) (F:=At) (fun i => ((i:Int),(l.length:Int),l,l,f,())) (0,(l.length:Int),l,l,f,()) l.length (fun _ => true) (Sum.inl (false,(l.length:Int),(l.length:Int),l,l,f,())) (false,()) rfl hl
    (fun i hi => by
      unfold At
      simp only [lt_yes hi,if_true,getI_lt hi,Ad,hf _ (List.getElem_mem hi),A9,Bool.false_eq_true,if_false,idxN hi hl (Nat.le_refl _)])
    (by unfold At; simp only [lt_no,Bool.false_eq_true,if_false])
  unfold As
  simp only [lenI_eq,Ir,A9,Bool.false_eq_true,if_false,l0,Pt,if_true,Ad]
theorem Ww (l:List Ab) (f:(Ab × Ab × Unit) -> Option Bool) (u:Unit) (hl:l.length <= 1099511627776) (hf:∀ a ∈ l,f (a,a,()) = some true):Aj (l,l,f,u) () = some (true,()):=by
  have l0:=fun A:Type => allIS (A:=A) (F:=Al) (fun i => ((i:Int),(l.length:Int),l,l,f,())) (0,(l.length:Int),l,l,f,()) l.length (fun _ => true) (Sum.inl (false,(l.length:Int),(l.length:Int),l,l,f,())) (false,()) rfl hl
    (fun i hi => by
      unfold Al
      simp only [lt_yes hi,if_true,getI_lt hi,Ad,hf _ (List.getElem_mem hi),A9,Bool.false_eq_true,if_false,idxN hi hl (Nat.le_refl _)])
    (by unfold Al; simp only [lt_no,Bool.false_eq_true,if_false])
  unfold Aj
  simp only [lenI_eq,Ir,A9,Bool.false_eq_true,if_false,l0,Pt,if_true,Ad]
theorem W6 (l:List Af) (f:(Af × Af × Unit) -> Option Bool) (u:Unit) (hl:l.length <= 1099511627776) (hf:∀ a ∈ l,f (a,a,()) = some true):Ak (l,l,f,u) () = some (true,()):=by
  have l0:=fun A:Type => allIS (A:=A) (F:=Am) (fun i => ((i:Int),(l.length:Int),l,l,f,())) (0,(l.length:Int),l,l,f,()) l.length (fun _ => true) (Sum.inl (false,(l.length:Int),(l.length:Int),l,l,f,())) (false,()) rfl hl
    (fun i hi => by
      unfold Am
      simp only [lt_yes hi,if_true,getI_lt hi,Ad,hf _ (List.getElem_mem hi),A9,Bool.false_eq_true,if_false,idxN hi hl (Nat.le_refl _)])
    (by unfold Am; simp only [lt_no,Bool.false_eq_true,if_false])
  unfold Ak
  simp only [lenI_eq,Ir,A9,Bool.false_eq_true,if_false,l0,Pt,if_true,Ad]
theorem Aeu (l:List (List Int)) (f:((List Int) × (List Int) × Unit) -> Option Bool) (u:Unit) (hl:l.length <= 1099511627776) (hf:∀ a ∈ l,f (a,a,()) = some true):Bu (l,l,f,u) () = some (true,()):=by
  have l0:=fun A:Type => allIS (A:=A) (F:=B4) (fun i => ((i:Int),(l.length:Int),l,l,f,())) (0,(l.length:Int),l,l,f,()) l.length (fun _ => true) (Sum.inl (false,(l.length:Int),(l.length:Int),l,l,f,())) (false,()) rfl hl
    (fun i hi => by
      unfold B4
      simp only [lt_yes hi,if_true,getI_lt hi,Ad,hf _ (List.getElem_mem hi),A9,Bool.false_eq_true,if_false,idxN hi hl (Nat.le_refl _)])
    (by unfold B4; simp only [lt_no,Bool.false_eq_true,if_false])
  unfold Bu
  simp only [lenI_eq,Ir,A9,Bool.false_eq_true,if_false,l0,Pt,if_true,Ad]
theorem Zq (m:D_Mode) (u:Unit) (h:Sm_Mode 1099511627776 m):Jx (m,m,u) () = some (true,()):=by
  unfold Jx
  simp only [Ir,if_true,Rb _ _ h.2.1.1,Rb _ _ h.2.2.1.1,Ad]
theorem To (r:Af) (u:Unit) (h:Ob 1099511627776 r):F8 (r,r,u) () = some (true,()):=by
  unfold F8
  simp only [Afe _ _ h.1.1,if_true,Ad]
  rw [Aeu _ _ () h.2.1.1 (fun a ha => by simp only [Rb _ _ (h.2.1.2 a ha).1,Ad])]
  simp only [Ad]
theorem Sy (a:Ab) (u:Unit) (h:Oc 1099511627776 a):E1 (a,a,u) () = some (true,()):=by
  unfold E1
  simp only [Ir,Re,if_true]
  rw [Aes _ _ () h.2.2.1.1 (fun m hm => by simp only [Zq _ _ (h.2.2.1.2 m hm),Ad])]
  simp only [Ad]
theorem Ue (p:Aa) (u:Unit) (h:L6 1099511627776 p):Fx (p,p,u) () = some (true,()):=by
  unfold Fx
  simp only [Ir,if_true]
  rw [Ww _ _ () h.2.1.1 (fun m hm => by simp only [Sy _ _ (h.2.1.2 m hm),Ad])]
  simp only [Ad,if_true,Afw _ _ h.2.2.1.1]
  rw [W6 _ _ () h.2.2.2.1.1 (fun m hm => by simp only [To _ _ (h.2.2.2.1.2 m hm),Ad])]
  simp only [Ad,if_true,Rb _ _ h.2.2.2.2.1.1]
open Go.Abs
set_option linter.unusedVariables false
set_option linter.unusedSimpArgs false
theorem addNil {α:Type} (x:List α) (h:x.length <= 1048576):addI [] x = some x:=by
  rw [addI_ok (by rw [room_eq]; simp; omega)]
  rfl
theorem addOne {α:Type} (x:List α) (y:α) (h:x.length <= 1048576):addI x [y] = some (x ++ [y]):=addI_ok (by rw [room_eq]; simp; omega)
abbrev zeroP:Aa:=(0,[],[],[],[],())
theorem Qm (x:List Int) (u:Unit) (h:x.length <= 1048576):Bf (x,u) () = some (x,()):=by
  unfold Bf
  simp only [addNil x h,Ad]
theorem Ads (x:List D_Link) (u:Unit) (h:x.length <= 1048576):Bx (x,u) () = some (x,()):=by
  unfold Bx
  simp only [addNil x h,Ad]
theorem Aei (x:List D_Step) (u:Unit) (h:x.length <= 1048576):Bt (x,u) () = some (x,()):=by
  unfold Bt
  simp only [addNil x h,Ad]
theorem Ae8 (p:Aa) (u:Unit) (h:L6 1048576 p):Ea (p,u) () = some (p,()):=by
  obtain ⟨-,⟨ha,hA⟩,⟨hk,-⟩,⟨hr,hR⟩,⟨hs,-⟩,-⟩:=h
  have l0:=fun A:Type => (Sg (A:=A) (F:=D4) (fun i out => ((i:Int),lenI p.2.1,p.2.1,p,(p.1,out,p.2.2.1,[],p.2.2.2.2.1,()),zeroP,())) p.2.1 (fun i out => out.length = i) (fun out a => out ++ [a]) (fun out => Sum.inl (false,lenI p.2.1,lenI p.2.1,p.2.1,p,(p.1,out,p.2.2.1,[],p.2.2.2.2.1,()),zeroP,())) (by omega)
    (fun i out hi ho => by
      have hm:=hA _ (List.getElem_mem hi)
      have hn:=hm.2.2.1.1
      have hlt:ltZ (i:Int) (lenI p.2.1) = true:=lt_yes hi
      refine ⟨?_,by simp [ho]⟩
      have l2:=fun A:Type => (Sg (A:=A) (F:=D5) (fun j ms => ((j:Int),lenI p.2.1[i].2.2.1,p.2.1[i].2.2.1,(p.2.1[i].1,p.2.1[i].2.1,ms,()),(i:Int),lenI p.2.1,p.2.1,p,(p.1,out,p.2.2.1,[],p.2.2.2.2.1,()),zeroP,())) p.2.1[i].2.2.1 (fun j ms => ms.length = j) (fun ms m => ms ++ [m]) (fun ms => Sum.inl (false,lenI p.2.1[i].2.2.1,lenI p.2.1[i].2.2.1,p.2.1[i].2.2.1,(p.2.1[i].1,p.2.1[i].2.1,ms,()),(i:Int),lenI p.2.1,p.2.1,p,(p.1,out,p.2.2.1,[],p.2.2.2.2.1,()),zeroP,())) (by omega)
        (fun j ms hj hro => by
          have hq:=hm.2.2.1.2 _ (List.getElem_mem hj)
          have hlt:ltZ (j:Int) (lenI p.2.1[i].2.2.1) = true:=lt_yes hj
          refine ⟨?_,by simp [hro]⟩
          unfold D5
          simp only [hlt,if_true,getI_lt hj,Ad,Qm _ _ hq.2.1.1,Qm _ _ hq.2.2.1.1,addOne ms _ (show ms.length <= 1048576 by omega),idxN hj (show p.2.1[i].2.2.1.length <= 1099511627776 by omega) (Nat.le_refl _)])
        (fun ms hro => by
          have hlt:ltZ (p.2.1[i].2.2.1.length:Int) (lenI p.2.1[i].2.2.1) = false:=lt_no _
          unfold D5
          simp only [hlt,Bool.false_eq_true,if_false]
          rfl)
        (a:=[]) (s:=(0,lenI p.2.1[i].2.2.1,p.2.1[i].2.2.1,(p.2.1[i].1,p.2.1[i].2.1,[],()),(i:Int),lenI p.2.1,p.2.1,p,(p.1,out,p.2.2.1,[],p.2.2.2.2.1,()),zeroP,())) rfl rfl).1
      unfold D4
      simp only [hlt,if_true,getI_lt hi,Ad,l2,foldl_append,List.nil_append,addOne out _ (show out.length <= 1048576 by omega),idxN hi (show p.2.1.length <= 1099511627776 by omega) (Nat.le_refl _)])
    (fun out ho => by
      have hlt:ltZ (p.2.1.length:Int) (lenI p.2.1) = false:=lt_no _
      unfold D4
      simp only [hlt,Bool.false_eq_true,if_false]
      rfl)
    (a:=[]) (s:=(0,lenI p.2.1,p.2.1,p,(p.1,[],p.2.2.1,[],p.2.2.2.2.1,()),zeroP,())) rfl rfl).1
  have l1:=fun A:Type => (Sg (A:=A) (F:=D3) (fun i out => ((i:Int),lenI p.2.2.2.1,p.2.2.2.1,(p.1,p.2.1,p.2.2.1,out,p.2.2.2.2.1,()),zeroP,())) p.2.2.2.1 (fun i out => out.length = i) (fun out a => out ++ [a]) (fun out => Sum.inl (false,lenI p.2.2.2.1,lenI p.2.2.2.1,p.2.2.2.1,(p.1,p.2.1,p.2.2.1,out,p.2.2.2.2.1,()),zeroP,())) (by omega)
    (fun i out hi ho => by
      have hm:=hR _ (List.getElem_mem hi)
      have hlt:ltZ (i:Int) (lenI p.2.2.2.1) = true:=lt_yes hi
      refine ⟨?_,by simp [ho]⟩
      have l2:=fun A:Type => (Sg (A:=A) (F:=Dz) (fun j rows => ((j:Int),lenI p.2.2.2.1[i].2.1,p.2.2.2.1[i].2.1,(p.2.2.2.1[i].1,rows,()),(i:Int),lenI p.2.2.2.1,p.2.2.2.1,(p.1,p.2.1,p.2.2.1,out,p.2.2.2.2.1,()),zeroP,())) p.2.2.2.1[i].2.1 (fun j rows => rows.length = j) (fun rows row => rows ++ [row]) (fun rows => Sum.inl (false,lenI p.2.2.2.1[i].2.1,lenI p.2.2.2.1[i].2.1,p.2.2.2.1[i].2.1,(p.2.2.2.1[i].1,rows,()),(i:Int),lenI p.2.2.2.1,p.2.2.2.1,(p.1,p.2.1,p.2.2.1,out,p.2.2.2.2.1,()),zeroP,())) (by have:=hm.2.1.1; omega)
        (fun j rows hj hro => by
          have hq:=hm.2.1.2 _ (List.getElem_mem hj)
          have hn:=hm.2.1.1
          have hlt:ltZ (j:Int) (lenI p.2.2.2.1[i].2.1) = true:=lt_yes hj
          refine ⟨?_,by simp [hro]⟩
          unfold Dz
          simp only [hlt,if_true,getI_lt hj,Ad,Qm _ _ hq.1,addOne rows _ (show rows.length <= 1048576 by omega),idxN hj (show p.2.2.2.1[i].2.1.length <= 1099511627776 by omega) (Nat.le_refl _)])
        (fun rows hro => by
          have hlt:ltZ (p.2.2.2.1[i].2.1.length:Int) (lenI p.2.2.2.1[i].2.1) = false:=lt_no _
          unfold Dz
          simp only [hlt,Bool.false_eq_true,if_false]
          rfl)
        (a:=[]) (s:=(0,lenI p.2.2.2.1[i].2.1,p.2.2.2.1[i].2.1,(p.2.2.2.1[i].1,[],()),(i:Int),lenI p.2.2.2.1,p.2.2.2.1,(p.1,p.2.1,p.2.2.1,out,p.2.2.2.2.1,()),zeroP,())) rfl rfl).1
      unfold D3
      simp only [hlt,if_true,getI_lt hi,Ad,Aei _ _ hm.1.1,l2,foldl_append,List.nil_append,addOne out _ (show out.length <= 1048576 by omega),idxN hi (show p.2.2.2.1.length <= 1099511627776 by omega) (Nat.le_refl _)])
    (fun out ho => by
      have hlt:ltZ (p.2.2.2.1.length:Int) (lenI p.2.2.2.1) = false:=lt_no _
      unfold D3
      simp only [hlt,Bool.false_eq_true,if_false]
      rfl)
    (a:=[]) (s:=(0,lenI p.2.2.2.1,p.2.2.2.1,(p.1,p.2.1,p.2.2.1,[],p.2.2.2.2.1,()),zeroP,())) rfl rfl).1
  unfold Ea
  simp only [Ads _ _ hk,Qm _ _ hs,l0,l1,Ad,foldl_append,List.nil_append]
open Go.Abs
set_option linter.unusedVariables false
set_option linter.unusedSimpArgs false
def formI (p:Aa) (s:Ag) (i:Nat):Bool:=match p.2.1[i]?,s.1[i]?,s.2.1[i]? with
  | some a,some t,some m => inB t 0 60 && inB m 0 (subZ .i64 (lenI a.2.2.1) 1)
  | _,_,_ => true
def formB (p:Aa) (s:Ag):Bool:=projB p && eqZ (lenI s.1) (lenI p.2.1) && eqZ (lenI s.2.1) (lenI p.2.1) && (List.range p.2.1.length).all (formI p s)
theorem X3 {α β:Type} {x:List α} {y:List β} (h:eqZ (lenI x) (lenI y) = true):x.length = y.length:=by
  rw [eqZ_dec,decide_eq_true_eq] at h
  exact Int.ofNat.inj h
theorem Ud (p:Aa) (s:Ag) (u:Unit) (h:L6 1099511627776 p):Ft (p,s,u) () = some (formB p s,()):=by
  unfold Ft formB
  simp only [I3 _ _ h,Ad]
  cases projB p with
  | false => simp [notB]
  | true =>
  cases h1:eqZ (lenI s.1) (lenI p.2.1) with
  | false => simp [notB,h1]
  | true =>
  cases h2:eqZ (lenI s.2.1) (lenI p.2.1) with
  | false => simp [notB,h1,h2]
  | true =>
  have e1:=X3 h1
  have e2:=X3 h2
  have ha:=h.2.1.1
  have l0:=fun A:Type => allIS (A:=A) (F:=Fa) (fun i => ((i:Int),lenI p.2.1,s,p,())) (0,lenI p.2.1,s,p,()) p.2.1.length (formI p s) (Sum.inl (false,lenI p.2.1,lenI p.2.1,s,p,())) (false,()) rfl ha
    (fun i hi => by
      unfold Fa formI
      have hi1:i < s.1.length:=by omega
      have hi2:i < s.2.1.length:=by omega
      rw [List.getElem?_eq_getElem hi,List.getElem?_eq_getElem hi1,List.getElem?_eq_getElem hi2]
      have hl:ltZ (i:Int) (lenI p.2.1) = true:=lt_yes hi
      simp only [hl,if_true,getI_lt hi,getI_lt hi1,getI_lt hi2,Ad,Ss,Cy,idxN hi ha (Nat.le_refl _)]
      rcases tf (inB s.1[i] 0 60) with hp | hp <;> rcases tf (inB s.2.1[i] 0 (subZ .i64 (lenI p.2.1[i].2.2.1) 1)) with hq | hq <;> simp [-Int.natCast_add,notB,hp,hq,getI_lt hi,getI_lt hi2,Cy,idxN hi ha (Nat.le_refl _)])
    (by unfold Fa; simp only [lenI_eq,lt_no,Bool.false_eq_true,if_false])
  simp only [A9,Bool.false_eq_true,if_false,h1,h2,Ad,l0]
  cases k0:(List.range p.2.1.length).all (formI p s) <;> simp
end Go.Proofs.YtbkefganebmlnaaGreatDoor
