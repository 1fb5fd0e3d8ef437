/-
  Plain laws: numbers in a row, lists that hold a number, sets, domains (several small texts in one). Condition: no list is longer than 2 to the 40.
-/
import Derived.Test.YteggmejnpcfalaaGreatl3LGenA
import Derived.Test.YteggmejnpcfalaaGreatl3LDomM
namespace Go.Proofs.YteggmejnpcfalaaGreat
open Go.Abs
set_option linter.unusedVariables false
set_option linter.unusedSimpArgs false
structure BoxL (n:Nat) (b:Ae):Prop where
 l1:b.1.length = n
 l2:b.2.1.length = n
 l3:b.2.2.1.length = n
/-- a domain that is drawn, but for its being not empty -/
structure GenB0 (p:Aa) (b:Ae):Prop where
 l:BoxL p.2.1.length b
 v1:∀ i (h1:i < b.1.length),0 <= b.1[i] /\ b.1[i] < p.1
 v2:∀ i (h2:i < b.2.1.length),0 <= b.2.1[i] /\ b.2.1[i] < p.1
 m:∀ i (h3:i < b.2.2.1.length) (h:i < p.2.1.length),b.2.2.1[i] = iotaI p.2.1[i].2.2.1.length
structure GenB (p:Aa) (b:Ae):Prop extends GenB0 p b where
 le:∀ i (h1:i < b.1.length) (h2:i < b.2.1.length),b.1[i] <= b.2.1[i]
theorem GenB0.sm {p:Aa} {b:Ae} (hP:GenP 6 p) (h:GenB0 p b) {B:Nat} (hB:8 <= B):Le B b:=by
 have hal:=hP.al
 have l1:=h.l.l1
 have l2:=h.l.l2
 have l3:=h.l.l3
 refine ⟨⟨by omega,fun _ _ => trivial⟩,⟨by omega,fun _ _ => trivial⟩,⟨by omega,fun y hy => ?_⟩,trivial⟩
 obtain ⟨i,hi,rfl⟩:=List.mem_iff_getElem.1 hy
 have:=(hP.a i (by omega)).ml
 rw [h.m i hi (by omega),B0]
 exact ⟨by omega,fun _ _ => trivial⟩
theorem Abm {b:Ae} (h1:∀ i (h1:i < b.1.length) (h2:i < b.2.1.length),b.1[i] <= b.2.1[i]) (h2:∀ m ∈ b.2.2.1,m ≠ []):emptyB b = false:=by
 unfold emptyB
 have h0:((List.range b.1.length).all fun i => notB (badI b i)) = true:=by
  rw [List.all_eq_true]
  intro i hi
  have hi:i < b.1.length:=by simpa using hi
  unfold badI
  rw [List.getElem?_eq_getElem hi]
  by_cases h:i < b.2.1.length
  ·rw [List.getElem?_eq_getElem h,Nt,Bool.not_eq_true',Bool.eq_false_iff,Ne,ltZ_iff]
   have:=h1 i hi h
   omega
  ·rw [List.getElem?_eq_none (by omega)]
   rfl
 rw [if_pos h0,List.any_eq_false]
 intro m hm
 have:=h2 m hm
 cases m with
 | nil => exact absurd rfl this
 | cons x m => rw [lenI_eq,eqZ_iff]; simp; omega
theorem GenB0.init {p:Aa} (hP:GenP 6 p):GenB p (initD p):=by
 have hdl:=hP.dl
 have hs:subZ .i64 p.1 1 = p.1 - 1:=subZ64 (by omega) (by omega)
 refine ⟨⟨⟨by simp [initD],by simp [initD],by simp [initD]⟩,fun i h1 => ?_,fun i h2 => ?_,fun i h3 h => ?_⟩,fun i h1 h2 => ?_⟩
 ·simp only [initD,List.getElem_map]; omega
 ·simp only [initD,List.getElem_map,hs]; omega
 ·simp only [initD,List.getElem_map]
 ·simp only [initD,List.getElem_map,hs]; omega
open Go.Abs
set_option linter.unusedVariables false
set_option linter.unusedSimpArgs false
def mnB (b:Ae) (i:Nat):Int:=(b.1[i]?).getD 0
def mxB (b:Ae) (i:Nat):Int:=(b.2.1[i]?).getD 0
def moB (b:Ae) (i:Nat):List Int:=(b.2.2.1[i]?).getD []
theorem BoxL.at {n:Nat} {b:Ae} (h:BoxL n b) {i:Nat} (hi:i < n):b.1[i]? = some (mnB b i) /\ b.2.1[i]? = some (mxB b i) /\ b.2.2.1[i]? = some (moB b i):=by
 have l1:=h.l1
 have l2:=h.l2
 have l3:=h.l3
 unfold mnB mxB moB
 rw [List.getElem?_eq_getElem (show i < b.1.length by omega),List.getElem?_eq_getElem (show i < b.2.1.length by omega),List.getElem?_eq_getElem (show i < b.2.2.1.length by omega)]
 exact ⟨rfl,rfl,rfl⟩
theorem BoxL.get {n:Nat} {b:Ae} (h:BoxL n b) {i:Nat} (hi:i < n):getI b.1 (i:Int) = some (mnB b i) /\ getI b.2.1 (i:Int) = some (mxB b i) /\ getI b.2.2.1 (i:Int) = some (moB b i):=by
 rw [Ht,Ht,Ht]
 exact h.at hi
/-- starts and modes of as many activities -/
structure SchL (n:Nat) (s:Ac):Prop where
 s1:s.1.length = n
 s2:s.2.1.length = n
def tsS (s:Ac) (i:Nat):Int:=(s.1[i]?).getD 0
def ksS (s:Ac) (i:Nat):Int:=(s.2.1[i]?).getD 0
theorem SchL.at {n:Nat} {s:Ac} (h:SchL n s) {i:Nat} (hi:i < n):s.1[i]? = some (tsS s i) /\ s.2.1[i]? = some (ksS s i):=by
 have l1:=h.s1
 have l2:=h.s2
 unfold tsS ksS
 rw [List.getElem?_eq_getElem (show i < s.1.length by omega),List.getElem?_eq_getElem (show i < s.2.1.length by omega)]
 exact ⟨rfl,rfl⟩
theorem SchL.get {n:Nat} {s:Ac} (h:SchL n s) {i:Nat} (hi:i < n):getI s.1 (i:Int) = some (tsS s i) /\ getI s.2.1 (i:Int) = some (ksS s i):=by
 rw [Ht,Ht]
 exact h.at hi
theorem con_iff {n:Nat} {b:Ae} {s:Ac} (hb:BoxL n b) (hs:SchL n s):conB b s = true ↔ ∀ i,i < n -> mnB b i <= tsS s i /\ tsS s i <= mxB b i /\ hasB (moB b i) (ksS s i) = true:=by
 unfold conB
 have e0:eqZ (lenI s.2.1) (lenI s.1) = true:=by rw [lenI_eq,lenI_eq,hs.s1,hs.s2]; exact Cm _
 have e1:eqZ (lenI b.1) (lenI s.1) = true:=by rw [lenI_eq,lenI_eq,hs.s1,hb.l1]; exact Cm _
 have e2:eqZ (lenI b.2.1) (lenI s.1) = true:=by rw [lenI_eq,lenI_eq,hs.s1,hb.l2]; exact Cm _
 have e3:eqZ (lenI b.2.2.1) (lenI s.1) = true:=by rw [lenI_eq,lenI_eq,hs.s1,hb.l3]; exact Cm _
 rw [e0,e1,e2,e3,hs.s1,Bool.and_self,Bool.and_self,Bool.and_self,Bool.true_and,List.all_eq_true]
 refine ⟨fun h i hi => ?_,fun h i hi => ?_⟩
 ·have:=h i (by simpa using hi)
  obtain ⟨g1,g2,g3⟩:=hb.at hi
  obtain ⟨g4,g5⟩:=hs.at hi
  unfold conI at this
  rw [g1,g2,g3,g4,g5,Bool.and_eq_true,inB_iff] at this
  exact ⟨this.1.1,this.1.2,this.2⟩
 ·have hi:i < n:=by simpa using hi
  obtain ⟨k1,k2,k3⟩:=h i hi
  obtain ⟨g1,g2,g3⟩:=hb.at hi
  obtain ⟨g4,g5⟩:=hs.at hi
  unfold conI
  rw [g1,g2,g3,g4,g5,Bool.and_eq_true,inB_iff]
  exact ⟨⟨k1,k2⟩,k3⟩
theorem Lm {l:List Int} {n:Int}:hasB l n = true ↔ n ∈ l:=by
 unfold hasB
 rw [List.any_eq_true]
 constructor
 ·rintro ⟨x,hx,e⟩
  rw [eqZ_iff] at e
  exact e ▸ hx
 ·intro h
  exact ⟨n,h,Cm _⟩
open Go.Abs
set_option linter.unusedVariables false
set_option linter.unusedSimpArgs false
theorem GenB0.mo {p:Aa} {b:Ae} (h:GenB0 p b) {i:Nat} (hi:i < p.2.1.length):moB b i = iotaI p.2.1[i].2.2.1.length:=by
 have l3:=h.l.l3
 unfold moB
 rw [List.getElem?_eq_getElem (by omega)]
 exact h.m i (by omega) hi
/-- in ascending order -/
theorem Aae {l:List Int} (h:l.Pairwise (· < ·)):setB l = true:=by
 unfold setB
 rw [List.all_eq_true]
 intro i hi
 have hi:i < l.length:=by simpa using hi
 rw [List.pairwise_iff_getElem] at h
 cases i with
 | zero => rfl
 | succ j =>
  have:=h j (j + 1) (by omega) hi (by omega)
  simp only [ordI]
  rw [List.getElem?_eq_getElem hi,List.getElem?_eq_getElem (show j < l.length by omega)]
  simp only [Nt,Bool.not_eq_true',Bool.eq_false_iff,Ne,leZ_iff]
  omega
theorem iota_lt (n:Nat):(iotaI n).Pairwise (· < ·):=by
 unfold iotaI
 rw [List.pairwise_map]
 exact List.pairwise_lt_range.imp fun h => by omega
/-- a domain of the right form -/
structure BoxOk (p:Aa) (b:Ae):Prop where
 l:BoxL p.2.1.length b
 v:∀ i,i < p.2.1.length -> -2 <= mnB b i /\ mnB b i <= 62 /\ -2 <= mxB b i /\ mxB b i <= 62
 m:∀ i (hi:i < p.2.1.length),(moB b i).Pairwise (· < ·) /\ ∀ x ∈ moB b i,x ∈ iotaI p.2.1[i].2.2.1.length
theorem Ab5 {a b:List Int}:subB a b = true ↔ ∀ x ∈ a,x ∈ b:=by
 unfold subB
 rw [List.all_eq_true]
 exact ⟨fun h x hx => Lm.1 (h x hx),fun h x hx => Lm.2 (h x hx)⟩
theorem BoxOk.dom {p:Aa} {b:Ae} (hP:GenP 6 p) (h:BoxOk p b):domB p b = true:=by
 unfold domB
 have e1:eqZ (lenI b.1) (lenI p.2.1) = true:=by rw [lenI_eq,lenI_eq,h.l.l1]; exact Cm _
 have e2:eqZ (lenI b.2.1) (lenI p.2.1) = true:=by rw [lenI_eq,lenI_eq,h.l.l2]; exact Cm _
 have e3:eqZ (lenI b.2.2.1) (lenI p.2.1) = true:=by rw [lenI_eq,lenI_eq,h.l.l3]; exact Cm _
 rw [hP.ok (Nat.le_refl _),e1,e2,e3,Bool.and_self,Bool.and_self,Bool.and_self,Bool.true_and,List.all_eq_true]
 intro i hi
 have hi:i < p.2.1.length:=by simpa using hi
 obtain ⟨g1,g2,g3⟩:=h.l.at hi
 have hv:=h.v i hi
 have hm:=h.m i hi
 unfold domI
 rw [List.getElem?_eq_getElem hi,g1,g2,g3]
 simp only [Bool.and_eq_true,inB_iff]
 exact ⟨⟨⟨by omega,by omega⟩,Aae hm.1⟩,Ab5.2 hm.2⟩
theorem GenB0.ok {p:Aa} {b:Ae} (hP:GenP 6 p) (h:GenB0 p b):BoxOk p b:=by
 have hdl:=hP.dl
 refine ⟨h.l,fun i hi => ?_,fun i hi => ?_⟩
 ·have l1:=h.l.l1
  have l2:=h.l.l2
  have e1:mnB b i = b.1[i]:=by unfold mnB; rw [List.getElem?_eq_getElem (by omega)]; rfl
  have e2:mxB b i = b.2.1[i]:=by unfold mxB; rw [List.getElem?_eq_getElem (by omega)]; rfl
  have a1:=h.v1 i (by omega)
  have a2:=h.v2 i (by omega)
  rw [e1,e2]
  omega
 ·rw [h.mo hi]
  exact ⟨iota_lt _,fun x hx => hx⟩
theorem GenB0.dom {p:Aa} {b:Ae} (hP:GenP 6 p) (h:GenB0 p b):domB p b = true:=(h.ok hP).dom hP
end Go.Proofs.YteggmejnpcfalaaGreat
