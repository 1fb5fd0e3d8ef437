/-
  Plain law: for every code the law FnDist returns true.
-/
import Derived.Test.YteggmejnpcfalaaGreatl3LDistM
import Derived.Test.YteggmejnpcfalaaGreatl3LAllM
import Derived.Test.YteggmejnpcfalaaGreatl3LGenA
namespace Go.Proofs.YteggmejnpcfalaaGreat
open Go.Abs
set_option linter.unusedVariables false
set_option linter.unusedSimpArgs false
theorem Up (b:List Int) (hb:b.length <= 1048576):∃ p,GenP 2 p /\ J9 (b,()) () = some (p,()):=by
 unfold J9
 obtain ⟨c,hc,e⟩:=Abk b hb
 obtain ⟨p,c',hp,hc',e2⟩:=Aaa c hc 2 (by omega) (by omega)
 have e2':Ke (c,(2,())) () = some (p,c'):=e2
 obtain ⟨k,hk,c2,hc2,e3⟩:=A6 c' hc' 4 (by omega) (by omega)
 have e3':Ah (c',(4,())) () = some ((k:Int),c2):=e3
 have hadd:addZ .i64 3 (k:Int) = 3 + (k:Int):=addZ64 (by omega) (by omega)
 simp only [e,Option.bind_some,e2',e3',hadd]
 exact ⟨(3 + (k:Int),p.2),⟨by show 1 <= 3 + (k:Int) /\ 3 + (k:Int) <= 23; omega,hp.rl,hp.r,hp.sl,hp.s,hp.al,hp.a,hp.kl,hp.k⟩,rfl⟩
theorem Adn {p:Aa} (hp:Af 1099511627776 p) (h:projB p = true) {c:List Int} (hc:∀ u,Bh (p,u) () = some (c,())) (hn:c ≠ []) (u:Unit):Dg (p,u) () = some ([],()):=by
 show ((Ao (p,()) ()).map (·.1)).bind (fun ok => if ok = true then ((Bh (p,()) ()).map (·.1)).bind (fun c => if c = [] then (if 1000 <= p.2.2.1.length \/ 1000 <= p.2.1.length then none else
  (dL (cyG p) p.2.1.length p.2.2.1 Go.Proofs.d0).map fun s => (matL p.2.1.length (dN p.2.1.length p.2.1.length 0 (dJ p.2.1.length p.2.1.length 0 s)).1,())) else some ([],())) else some ([],())) = _
 rw [Ay p () hp,h,hc]
 simp only [Option.map_some,Ab,if_true]
 rw [if_neg hn]
theorem Snd_V {p:Aa} {f:Nat -> Nat -> Int} (hD:Dst p f) {σ:Nat -> Int} (hσ:LinkOk p σ) {i k:Nat} (hi:i < p.2.1.length) (hk:k < p.2.1.length):f i k = -1000 \/ f i k <= σ k - σ i:=by
 by_cases e:i = k
 ·subst e
  rw [hD.d i hi]
  exact .inr (by omega)
 ·rcases hD.o i k hi hk e with q | ⟨j,hj,e1,e2,eg⟩
  ·exact .inl q
  ·have:=hσ.k _ (List.getElem_mem hj) _ eg
   rw [e1,e2,Int.toNat_natCast,Int.toNat_natCast] at this
   exact .inr this
theorem lt_not {x y:Int} (h:y <= x):ltZ x y = false:=by
 rw [Bool.eq_false_iff,Ne,ltZ_iff]
 omega
theorem Wn (c:List Int):Ml (c,()) () = some (true,()):=by
 unfold Ml
 simp only [lenI_eq]
 rcases tf (ltZ 1048576 (c.length:Int)) with hc | hc
 ·have hc':c.length <= 1048576:=by
   rw [Bool.eq_false_iff,Ne,ltZ_iff] at hc
   omega
  obtain ⟨p,hP2,ep⟩:=Up c hc'
  have hP:=hP2.mono (show 2 <= 6 by omega)
  have hal:=hP2.al
  have hdl:=hP2.dl
  have hp:Af 1099511627776 p:=hP.sm (by omega) (by omega)
  have hpj:=hP.ok (Nat.le_refl _)
  have hA:∀ u,Fc (p,6,u) () = some (allS p 6,()):=fun u => (Lt p 6 u hp hpj (by omega) (by omega)).1
  have hl:=(Lt p 6 () hp hpj (by omega) (by omega)).2
  have hmem:∀ s ∈ allS p 6,okV p s = true:=fun s hs => Abr hs
  have hG:∀ k ∈ p.2.2.1,∀ g,cyG p k = some g -> -100 <= g /\ g <= 100:=fun k hk g eg => by
   obtain ⟨e1,e2⟩:=gap_V hp hpj hk
   rw [e1] at eg
   cases eg
   exact e2
  obtain ⟨cy,hcy,hno,hopp⟩:=Pos_V hp hpj hG
  obtain ⟨L,hL⟩:∃ L,L = allS p 6:=⟨_,rfl⟩
  rw [<- hL] at hl hmem hA
  by_cases hcn:cy = []
  ·subst hcn
   obtain ⟨f,hD,hF⟩:=Dist_V hp hpj hal.2 hG (hopp rfl) hcy
   have far:Far p f:=⟨hal.1,hal.2,hD,hF.d,fun i k hi hk => by
    by_cases e:i = k
    ·subst e
     rw [hF.d i hi]
     exact .inr (by omega)
    ·rcases hF.o i k hi hk e with q | ⟨j,hj,-,-,eg⟩
     ·exact .inl q
     ·exact .inr (hG _ (List.getElem_mem hj) _ eg)⟩
   obtain ⟨e,hE,hear⟩:=Early_V far
   obtain ⟨P,hPB,hpbd⟩:=Path_V hp hpj hal.2 hE hear.z
   obtain ⟨l,hLt,hlat⟩:=Late_V hp hpj far (t:=p.1) (by omega)
   obtain ⟨l2,hLt2,hlat2⟩:=Late_V hp hpj far (t:=P) (by have:=hpbd.z; omega)
   obtain ⟨w,hLB,hw⟩:=Lower_V hP hal.2 hpbd.z hPB
   have hSl:=Abu hal.2 hE hLt
   have tri:∀ i j k,i < p.2.1.length -> j < p.2.1.length -> k < p.2.1.length -> f i j ≠ -1000 -> f j k ≠ -1000 -> f i j + f j k <= f i k:=fun i j k hi hj hk h1 h2 => by
    by_cases e1:i = j
    ·subst e1; rw [hF.d i hi]; omega
    ·by_cases e2:j = k
     ·subst e2; rw [hF.d j hj]; omega
     ·have e3:k = i:=by omega
      subst e3
      rw [hF.d k hk]
      rcases hF.o k j hk hj e1 with q | ⟨x,hx,x1,x2,gx⟩
      ·exact absurd q h1
      ·rcases hF.o j k hj hk e2 with q | ⟨y,hy,y1,y2,gy⟩
       ·exact absurd q h2
       ·exact hopp rfl (by omega) x y hx hy (by rw [x2,y1]) (by rw [x1,y2]) _ _ gx gy
   obtain ⟨a,ha,hcr⟩:=crit_ex hal.1 (fun k hk => dur_pos hP hk) hear hpbd hlat2 hF.d tri
   obtain ⟨cr,hcr1,hcr2⟩:=Crit_V hal.2 hE hPB hLt2 ha hcr
   -- what holds of a valid schedule
   have sch:∀ s,okV p s = true -> (∀ a,a < p.2.1.length -> e a <= tsS s a /\ tsS s a <= l a /\ 0 <= tsS s a /\ tsS s a <= 60 /\ ∀ v,(v = durM p (initD p) a \/ ∃ k,k < p.2.1.length /\ f a k ≠ -1000 /\ v = f a k + durM p (initD p) k) -> tsS s a + v <= spanV p s) /\ P <= spanV p s /\ spanV p s <= p.1:=fun s ho => by
    have hk:=link_V hP ho
    have early:∀ a,a < p.2.1.length -> e a <= tsS s a:=fun a ha => by
     have h0:=ok_at hP ho ha
     rcases hear.w a ha with q | ⟨i,hi,q⟩
     ·omega
     ·have h1:=ok_at hP ho hi
      rcases Snd_V hF hk hi ha with q2 | q2
      ·have:=hear.z a ha
       omega
      ·omega
    refine ⟨fun a ha => ⟨early a ha,?_,(ok_at hP ho ha).1,(ok_at hP ho ha).2.1,fun v hv => ?_⟩,?_,Uj hp ho⟩
    ·obtain ⟨k,hkl,hne,q⟩:=hlat.w a ha
     have h1:=ok_at hP ho hkl
     have h2:=end_leD hp ho hkl
     rcases Snd_V hF hk ha hkl with q2 | q2
     ·exact absurd q2 hne
     ·omega
    ·have h0:=ok_at hP ho ha
     rcases hv with q | ⟨k,hkl,hne,q⟩
     ·omega
     ·have h1:=ok_at hP ho hkl
      rcases Snd_V hF hk ha hkl with q2 | q2
      ·exact absurd q2 hne
      ·omega
    ·rcases hpbd.w with q | ⟨k,hkl,q⟩
     ·have:=Ll p s
      omega
     ·have h1:=ok_at hP ho hkl
      have:=early k hkl
      omega
   have hBig:p.2.1.length <= 1099511627776:=by omega
   have l0:=fun (i:Nat) (hi:i < L.length) => Hn (F:=J3) (fun a (_:Unit) => ((a:Int),(p.2.1.length:Int),L[i],(i:Int),(L.length:Int),L,rowN p.2.1.length (fun a => subZ .i64 (l a) (e a)),rowN p.2.1.length l,rowN p.2.1.length e,p,L,())) p.2.1.length
    (fun _ _ => True) (fun _ => Sum.inl (false,(p.2.1.length:Int),(p.2.1.length:Int),L[i],(i:Int),(L.length:Int),L,rowN p.2.1.length (fun a => subZ .i64 (l a) (e a)),rowN p.2.1.length l,rowN p.2.1.length e,p,L,())) hBig
    (fun a _ ha _ => by
     refine ⟨(),?_,trivial⟩
     have ho:=hmem _ (List.getElem_mem hi)
     have hf:=Di ho
     obtain ⟨h1,hP1,hP2⟩:=sch _ ho
     obtain ⟨k1,k2,k3,k4,k5⟩:=h1 a ha
     obtain ⟨v,hv,hv1,hv2⟩:=Tail_V hp hpj far ha
     have g1:=((Ff hf).get ha).1
     have n1:=lt_not k1
     have n2:=lt_not k2
     have ea:addZ .i64 (tsS L[i] a) v = tsS L[i] a + v:=addZ64 (by omega) (by omega)
     have n3:=lt_not (k5 v hv1)
     unfold J3
     simp only [lt_yes ha,if_true,g1,Ab,Gr ha,n1,n2,Bool.false_eq_true,if_false,Cm,Ak,Ot _ _ _ hp,hf,hv,ea,n3,idxN ha (Nat.le_refl _) hBig])
    (fun _ _ => by
     unfold J3
     simp only [lt_no,Bool.false_eq_true,if_false])
    (a:=()) (s:=((0:Int),(p.2.1.length:Int),L[i],(i:Int),(L.length:Int),L,rowN p.2.1.length (fun a => subZ .i64 (l a) (e a)),rowN p.2.1.length l,rowN p.2.1.length e,p,L,())) rfl trivial
   obtain ⟨-,l1,-⟩:=Hn (F:=J8) (fun i (_:Unit) => ((i:Int),(L.length:Int),L,rowN p.2.1.length (fun a => subZ .i64 (l a) (e a)),rowN p.2.1.length l,rowN p.2.1.length e,p,L,())) L.length
    (fun _ _ => True) (fun _ => Sum.inl (false,(L.length:Int),(L.length:Int),L,rowN p.2.1.length (fun a => subZ .i64 (l a) (e a)),rowN p.2.1.length l,rowN p.2.1.length e,p,L,())) (by omega)
    (fun i _ hi _ => by
     refine ⟨(),?_,trivial⟩
     have ho:=hmem _ (List.getElem_mem hi)
     have hf:=Di ho
     obtain ⟨h1,hP1,hP2⟩:=sch _ ho
     have n1:=lt_not hP1
     have n2:=lt_not (hw _ ho hP1)
     obtain ⟨-,l0',-⟩:=l0 i hi
     have e0:eqZ (((L[i]).1.length:Nat):Int) (((rowN p.2.1.length e).length:Nat):Int) = true:=by
      rw [Es,(Ff hf).s1]
      exact Cm _
     unfold J8
     simp only [lt_yes hi,if_true,getI_lt hi,Ab,e0,Ak,Bool.false_eq_true,if_false,lenI_eq,l0',Ot _ _ _ hp,hf,hPB,n1,hLB,n2,idxN hi (Nat.le_refl _) (show L.length <= 1099511627776 by omega)])
    (fun _ _ => by
     unfold J8
     simp only [lt_no,Bool.false_eq_true,if_false])
    (a:=()) (s:=((0:Int),(L.length:Int),L,rowN p.2.1.length (fun a => subZ .i64 (l a) (e a)),rowN p.2.1.length l,rowN p.2.1.length e,p,L,())) rfl trivial
   have z0:eqZ (p.2.1.length:Int) 0 = false:=eqZ_ne (by omega)
   have z1:ltZ 0 (lenI ([]:List Int)) = false:=rfl
   have z2:ltZ 0 (cr.length:Int) = true:=ltZ_iff.2 (by omega)
   have hI:∀ u,Dw (p,u) () = some (ltZ p.1 P,()):=fun u => by
    unfold Dw
    simp only [Ay _ _ hp,hpj,if_true,Ab,hcy,z1,Bool.false_eq_true,if_false,hPB]
   simp only [hc,Bool.false_eq_true,if_false,ep,Ab,hE,hA,lenI_eq,Es,z0,hLt,hSl,Cm,Ak,l1,hcr2,z2,if_true,hI]
   rcases tf (ltZ p.1 P) with q | q
   ·simp only [q,Dj,if_true,Ab]
   ·have hLn:L.length = 0:=by
     rcases Nat.eq_zero_or_pos L.length with h0 | h0
     ·exact h0
     ·obtain ⟨-,hP1,hP2⟩:=sch _ (hmem _ (List.getElem_mem h0))
      rw [ltZ_iff] at q
      omega
    have z3:eqZ (L.length:Int) 0 = true:=by rw [hLn]; rfl
    simp only [q,Ak,Bool.false_eq_true,if_false,Ab,z3]
  ·have hE:=Abh (Adn hp hpj hcy hcn)
   have hLn:L.length = 0:=by
    rcases Nat.eq_zero_or_pos L.length with h0 | h0
    ·exact h0
    ·exact (hno hcn _ (link_V hP (hmem _ (List.getElem_mem h0)))).elim
   have z0:eqZ (([]:List Int).length:Int) 0 = true:=rfl
   have z1:eqZ (L.length:Int) 0 = true:=by rw [hLn]; rfl
   have z2:ltZ 0 (cy.length:Int) = true:=by
    rw [ltZ_iff]
    rcases Nat.eq_zero_or_pos cy.length with h0 | h0
    ·exact absurd (List.eq_nil_of_length_eq_zero h0) hcn
    ·omega
   simp only [hc,Bool.false_eq_true,if_false,ep,Ab,hE,hA,lenI_eq,z0,z1,hcy,z2,if_true]
 ·simp only [hc,if_true]
theorem Add (x:Ty.dens K0.ps) (h:Ty.fits K0.ps x):Ml x () = some (true,()):=by
 obtain ⟨b,u⟩:=x
 exact Wn b
end Go.Proofs.YteggmejnpcfalaaGreat
