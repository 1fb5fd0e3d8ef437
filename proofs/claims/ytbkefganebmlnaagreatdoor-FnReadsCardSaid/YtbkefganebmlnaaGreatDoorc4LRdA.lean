/-
  Plain laws: numbers in a row, lists that hold a number, sets, domains (several small texts in one). Condition: no list is longer than 2 to the 40.
-/
import Derived.Test.YtbkefganebmlnaaGreatDoorc4LGenA
import Derived.Test.YtbkefganebmlnaaGreatDoorc4LProjM
namespace Go.Proofs.YtbkefganebmlnaaGreatDoor
open Go.Abs
set_option linter.unusedVariables false
set_option linter.unusedSimpArgs false
theorem Aa3:∃ n,big = n + 1 + 1 + 1 + 1 + 1:=⟨18446744073709551611,rfl⟩
theorem loop_nx {σ A B C:Type} {F:σ -> Option (Out σ B C)} {s s':σ} {n:Nat} (h:F s = some (.norm s')):loopN (A:=A) (n + 1) F s = loopN n F s':=by
  show (F s).bind _ = _
  rw [h]
  rfl
theorem loop_rt {σ A B C:Type} {F:σ -> Option (Out σ B C)} {s:σ} {n:Nat} {c:C} (h:F s = some (.ret c)):loopN (A:=A) (n + 1) F s = some (.ret c):=by
  show (F s).bind _ = _
  rw [h]
  rfl
theorem Qh {m:Nat} {p:Aa} (h:GenP m p) (hm:m <= 6) {i:Nat} (hi:i < p.2.1.length):idxOf (fun a:Ab => eqS a.1 (genName i)) p.2.1 = (i:Int):=by
  have hl:=h.al.2
  unfold idxOf
  rw [show p.2.1.findIdx? (fun a:Ab => eqS a.1 (genName i)) = some i from ?_]
  rw [List.findIdx?_eq_some_iff_getElem]
  refine ⟨hi,by rw [(h.a i hi).name]; exact Re _,fun j hj => ?_⟩
  rw [(h.a j (by omega)).name,X2 i (by omega) j hj]
  simp
theorem gen_one {i:Nat} (h:i < 3):∃ c:UInt8,genName i = [c] /\ 97 <= c.toNat /\ c.toNat <= 99:=by
  match i,h with
  | 0,_ => exact ⟨97,rfl,by decide,by decide⟩
  | 1,_ => exact ⟨98,rfl,by decide,by decide⟩
  | 2,_ => exact ⟨99,rfl,by decide,by decide⟩
def signV (k:Int):List UInt8:=if k = 1 then [62,61] else if k = 2 then [60,61] else if k = 3 then [61] else if k = 4 then [33,61] else []
theorem O5 (k:Int) (u:Unit):D9 (k,u) () = some (signV k,()):=by
  unfold D9 signV
  simp only [eqZ_dec,decide_eq_true_eq]
  by_cases h1:k = 1
  · simp only [if_pos h1]
  by_cases h2:k = 2
  · simp only [if_neg h1,if_pos h2]
  by_cases h3:k = 3
  · simp only [if_neg h1,if_neg h2,if_pos h3]
  by_cases h4:k = 4
  · simp only [if_neg h1,if_neg h2,if_neg h3,if_pos h4]
  simp only [if_neg h1,if_neg h2,if_neg h3,if_neg h4]
theorem Ach {p:Aa} {l:An} {i v:Nat} (hP:GenP 3 p) (h:GenL p l i v) (u:Unit):Iy (p,(l,u)) () = some (true,()):=by
  obtain ⟨k,a,w,uu⟩:=l
  obtain ⟨rfl,hi,rfl,hk⟩:=h
  have hal:=hP.al
  have hi0:i < p.2.1.length:=hi
  have hs:subZ .i64 (p.2.1.length:Int) 1 = (p.2.1.length:Int) - 1:=subZ64 (by omega) (by omega)
  have hin:inB (i:Int) 0 ((p.2.1.length:Int) - 1) = true:=inB_iff.2 (by omega)
  unfold Iy
  simp only [I3 p _ (hP.sm (by omega) (by omega)),hP.ok (by omega),Ad,A9,Bool.false_eq_true,if_false,Ng,lenI_eq,hs,hin,eqZ_dec,decide_eq_true_eq,Cy,getI_lt hi0]
  rcases hk with ⟨hk,hv⟩ | ⟨hk,hi2,hv⟩
  · have h1:inB (v:Int) (-1) 61 = true:=inB_iff.2 (by omega)
    have hk':k = 1 \/ k = 2:=hk
    rcases hk' with rfl | rfl <;> simp [h1]
  · have hs2:subZ .i64 (p.2.1[i].2.2.1.length:Int) 1 = (p.2.1[i].2.2.1.length:Int) - 1:=subZ64 (by omega) (by have:=(hP.a i hi0).ml; omega)
    have h1:inB (v:Int) 0 ((p.2.1[i].2.2.1.length:Int) - 1) = true:=inB_iff.2 (by omega)
    have hk':k = 3 \/ k = 4:=hk
    rcases hk' with rfl | rfl <;> simp [getI_lt hi0,hs2,h1]
theorem gen_v {p:Aa} {l:An} {i v:Nat} (hP:GenP 3 p) (h:GenL p l i v):v <= 23 /\ (l.1 = 1 \/ l.1 = 2 \/ l.1 = 3 \/ l.1 = 4):=by
  rcases h.hk with ⟨hk,hv⟩ | ⟨hk,hi,hv⟩
  · exact ⟨hv,by rcases hk with h | h <;> simp [h]⟩
  · have:=(hP.a i hi).ml
    exact ⟨by omega,by rcases hk with h | h <;> simp [h]⟩
def litV (l:An) (i v:Nat):List UInt8:=genName i ++ (signV l.1 ++ Lib.itoa (v:Int))
theorem Ck {n:Int} (h1:-100000 <= n) (h2:n <= 100000):(Lib.itoa n).length <= 7:=by rw [<- fmtV_in h1 h2]; exact Ahx n
theorem S3 (k:Int):(signV k).length <= 2:=by
  unfold signV
  by_cases h1:k = 1
  · rw [if_pos h1]; simp
  by_cases h2:k = 2
  · rw [if_neg h1,if_pos h2]; simp
  by_cases h3:k = 3
  · rw [if_neg h1,if_neg h2,if_pos h3]; simp
  by_cases h4:k = 4
  · rw [if_neg h1,if_neg h2,if_neg h3,if_pos h4]; simp
  rw [if_neg h1,if_neg h2,if_neg h3,if_neg h4]; simp
theorem Qt {p:Aa} {l:An} {i v:Nat} (hP:GenP 3 p) (h:GenL p l i v) (u:Unit):C8 (p,(l,u)) () = some (litV l i v,()):=by
  have hok:=Ach hP h u
  have hal:=hP.al
  have hv:=(gen_v hP h).1
  obtain ⟨k,a,w,uu⟩:=l
  obtain ⟨rfl,hi,rfl,hk⟩:=h
  have hn:=(hP.a i hi).name
  have h1:∀ x y:List UInt8,x.length + y.length <= 4096 -> addI x y = some (x ++ y):=fun x y h => addI_ok (by rw [room_eq]; omega)
  have l1:=(Uj i (by omega)).2
  have l2:=S3 k
  have l3:=Ck (n:=(v:Int)) (by omega) (by omega)
  unfold C8 litV
  simp only [hok,Ad,A9,Bool.false_eq_true,if_false,getI_lt hi,hn,O5,Ew,fmtV_in (n:=(v:Int)) (by omega) (by omega)]
  rw [h1 _ _ (by omega)]
  simp only [Ad]
  rw [h1 _ _ (by simp only [List.length_append]; omega)]
  simp only [Ad,List.append_assoc]
theorem pl_no {p:Aa} {s t:List UInt8} {k:Int} {m:An} (hk:1 <= k /\ k <= 4) (ht:signV k = t) (hl:s.length <= 4096) (h:(s.take (1 + t.length)).drop 1 ≠ t) :
    Cb (k,(1,(p,(s,(m,()))))) = some (.norm (k + 1,(1,(p,(s,(m,())))))):=by
  have h2:=S3 k
  rw [ht] at h2
  have hkl:leZ k 4 = true:=by rw [leZ_iff]; omega
  have ha:addZ .i64 1 (t.length:Int) = ((1 + t.length:Nat):Int):=by rw [addZ64 (by omega) (by omega)]; omega
  have hk1:addZ .i64 k 1 = k + 1:=addZ64 (by omega) (by omega)
  unfold Cb
  simp only [hkl,if_true,O5,ht,Ad,lenI_eq,ha]
  by_cases hlt:ltZ (s.length:Int) ((1 + t.length:Nat):Int) = true
  · simp only [hlt,if_true,Ad,hk1]
  · have hle:1 + t.length <= s.length:=by
      rw [ltZ_iff] at hlt; omega
    have hc:cutI s (1:Int) ((1 + t.length:Nat):Int) = some ((s.take (1 + t.length)).drop 1):=cut_to (a:=1) (by omega) hle
    have hne:eqS ((s.take (1 + t.length)).drop 1) t = false:=by
      cases he:eqS ((s.take (1 + t.length)).drop 1) t with
      | false => rfl
      | true => exact absurd (by simpa [eqS] using he) h
    simp only [hlt,Bool.false_eq_true,if_false,hc,Ad,hne,notB,Bool.not_false,if_true,hk1]
theorem pl_yes {p:Aa} {l:An} {i v:Nat} {c:UInt8} {m:An} (hP:GenP 3 p) (h:GenL p l i v) (hc:genName i = [c]) :
    Cb (l.1,(1,(p,(litV l i v,(m,()))))) = some (.ret ((l,(true,())),())):=by
  have hf:=fun u => Qt hP h u
  have hal:=hP.al
  have hidx:=Qh hP (by omega) h.hi
  have hv:=(gen_v hP h).1
  have hk:=(gen_v hP h).2
  have h2:=S3 l.1
  have l3:=Ck (n:=(v:Int)) (by omega) (by omega)
  obtain ⟨k,a,w,uu⟩:=l
  obtain ⟨ha',-,hw',-⟩:=h
  have ha':a = (i:Int):=ha'
  have hw':w = (v:Int):=hw'
  subst ha' hw'
  change k = 1 \/ k = 2 \/ k = 3 \/ k = 4 at hk
  change (signV k).length <= 2 at h2
  have hkl:leZ k 4 = true:=by rw [leZ_iff]; omega
  have hlit:litV (k,((i:Int),((v:Int),uu))) i v = c :: (signV k ++ Lib.itoa (v:Int)):=by unfold litV; rw [hc]; rfl
  rw [hlit] at hf ⊢
  show Cb (k,_) = _
  generalize hS:signV k = t at *
  have hslen:(c :: (t ++ Lib.itoa (v:Int))).length = 1 + t.length + (Lib.itoa (v:Int)).length:=by simp; omega
  have ha:addZ .i64 1 (t.length:Int) = ((1 + t.length:Nat):Int):=by rw [addZ64 (by omega) (by omega)]; omega
  have hlt:¬ ltZ ((c :: (t ++ Lib.itoa (v:Int))).length:Int) ((1 + t.length:Nat):Int) = true:=by rw [ltZ_iff,hslen]; omega
  have hc1:cutI (c :: (t ++ Lib.itoa (v:Int))) (1:Int) ((1 + t.length:Nat):Int) = some t:=by
    rw [show (1:Int) = ((1:Nat):Int) from rfl,cut_to (by omega) (by omega)]
    simp [Nat.add_comm 1]
  have hc2:cutI (c :: (t ++ Lib.itoa (v:Int))) ((1 + t.length:Nat):Int) ((c :: (t ++ Lib.itoa (v:Int))).length:Int) = some (Lib.itoa (v:Int)):=by
    rw [cut_to (by omega) (Nat.le_refl _),List.take_length]
    simp [Nat.add_comm 1]
  have hc3:cutI (c :: (t ++ Lib.itoa (v:Int))) (0:Int) (1:Int) = some [c]:=by
    rw [show (0:Int) = ((0:Nat):Int) from rfl,show (1:Int) = ((1:Nat):Int) from rfl,cut_to (by omega) (by omega)]
    simp
  have hpi:=Dp (Lib.itoa (v:Int)) () (by omega)
  rw [pI_itoa (by omega) (by omega)] at hpi
  have hai:=Gl p [c] () (by omega)
  rw [<- hc,hidx] at hai
  unfold Cb
  simp only [hkl,if_true,O5,hS,Ad,lenI_eq,ha,hlt,Bool.false_eq_true,if_false,hc1,Re,A9,hc2,hc3,hpi,<- hc,hai,hf]
theorem Ael {k j:Int} {n:Nat} (hj:1 <= j /\ j < k) (hk:k = 1 \/ k = 2 \/ k = 3 \/ k = 4) (c:UInt8):((c :: (signV k ++ Lib.itoa (n:Int))).take (1 + (signV j).length)).drop 1 ≠ signV j:=by
  have hj2:j = 1 \/ j = 2 \/ j = 3:=by omega
  have h:∀ (x y:UInt8) (xs ys:List UInt8) (m:Nat),x ≠ y -> ((c :: (x :: xs ++ Lib.itoa (n:Int))).take (1 + (y :: ys).length)).drop 1 ≠ y :: ys:=fun x y xs ys m hne he => by
    have:=congrArg List.head? he
    simp [Nat.add_comm 1] at this
    exact hne this
  rcases hk with rfl | rfl | rfl | rfl <;> rcases hj2 with rfl | rfl | rfl <;> first | omega | exact h _ _ _ _ 0 (by decide)
theorem byte_0 {c:UInt8} {l:List UInt8}:byteAt (c :: l) 0 = some (c.toNat:Int):=Sq (l:=c :: l) (i:=0) (by simp)
theorem byte_1 {c d:UInt8} {l:List UInt8}:byteAt (c :: d :: l) 1 = some (d.toNat:Int):=Sq (l:=c :: d :: l) (i:=1) (by simp)
theorem Ag1 {p:Aa} {c d:UInt8} {r:List UInt8} {m:An} (hc:97 <= c.toNat /\ c.toNat <= 99) (hd:d.toNat < 48 \/ (57 < d.toNat /\ d.toNat < 97)) (A:Type) :
    loopN (A:=A) big Fb (0,(p,(c :: d :: r,(m,())))) = some (.exit (Sum.inl (false,(1,(p,(c :: d :: r,(m,()))))))):=by
  refine Agi (s':=(1,(p,(c :: d :: r,(m,()))))) ?_ ?_
  · unfold Fb
    have h0:ltZ 0 ((c :: d :: r).length:Int) = true:=by rw [ltZ_iff]; simp only [List.length_cons]; omega
    have h1:leZ 97 (c.toNat:Int) = true:=by rw [leZ_iff]; omega
    have h2:leZ (c.toNat:Int) 122 = true:=by rw [leZ_iff]; omega
    simp only [lenI_eq,h0,if_true,byte_0,Ad,h1,h2]
    rfl
  · unfold Fb
    have h0:ltZ 1 ((c :: d :: r).length:Int) = true:=by rw [ltZ_iff]; simp only [List.length_cons]; omega
    simp only [lenI_eq,h0,if_true,byte_1,Ad]
    have h1:leZ 97 (d.toNat:Int) = false:=by
      cases h:leZ 97 (d.toNat:Int) with
      | false => rfl
      | true => rw [leZ_iff] at h; omega
    cases h48:leZ 48 (d.toNat:Int) with
    | false => simp only [h1,Bool.false_eq_true,if_false,Ad]
    | true =>
      have h2:leZ (d.toNat:Int) 57 = false:=by
        cases h:leZ (d.toNat:Int) 57 with
        | false => rfl
        | true => rw [leZ_iff] at h h48; omega
      simp only [h1,Bool.false_eq_true,if_false,if_true,Ad,h2]
theorem Afm {k:Int} (hk:k = 1 \/ k = 2 \/ k = 3 \/ k = 4):∃ d r,signV k = d :: r /\ (d.toNat < 48 \/ (57 < d.toNat /\ d.toNat < 97)):=by
  rcases hk with rfl | rfl | rfl | rfl
  · exact ⟨62,[61],rfl,by decide⟩
  · exact ⟨60,[61],rfl,by decide⟩
  · exact ⟨61,[],rfl,by decide⟩
  · exact ⟨33,[61],rfl,by decide⟩
theorem W4 {p:Aa} {l:An} {i v:Nat} (hP:GenP 3 p) (h:GenL p l i v) (u:Unit):Fq (p,(litV l i v,u)) () = some ((l,(true,())),()):=by
  have hal:=hP.al
  have hv:=(gen_v hP h).1
  have hk:=(gen_v hP h).2
  obtain ⟨c,hc,hc97⟩:=gen_one (i:=i) (by have:=h.hi; omega)
  obtain ⟨d,r,hd,hdr⟩:=Afm hk
  have l3:=Ck (n:=(v:Int)) (by omega) (by omega)
  have h2:=S3 l.1
  have hlit:litV l i v = c :: (signV l.1 ++ Lib.itoa (v:Int)):=by unfold litV; rw [hc]; rfl
  have hlit2:litV l i v = c :: d :: (r ++ Lib.itoa (v:Int)):=by rw [hlit,hd]; rfl
  have hlen:(litV l i v).length <= 4096:=by rw [hlit]; simp only [List.length_cons,List.length_append]; omega
  have hst:=fun A m => Ag1 (p:=p) (r:=r ++ Lib.itoa (v:Int)) (m:=m) hc97 hdr A
  rw [<- hlit2] at hst
  have hno:∀ (j:Int) (m:An),1 <= j -> j < l.1 -> Cb (j,(1,(p,(litV l i v,(m,()))))) = some (.norm (j + 1,(1,(p,(litV l i v,(m,())))))):=fun j m h1 h3 =>
    pl_no (t:=signV j) (by omega) rfl hlen (by rw [hlit]; exact Ael ⟨h1,h3⟩ hk c)
  have hyes:∀ m:An,Cb (l.1,(1,(p,(litV l i v,(m,()))))) = some (.ret ((l,(true,())),())):=fun m => pl_yes hP h hc
  obtain ⟨n,hn⟩:=Aa3
  have hloop:∀ (A:Type) (m:An),loopN (A:=A) big Cb (1,(1,(p,(litV l i v,(m,()))))) = some (.ret ((l,(true,())),())):=fun A m => by
    rw [hn]
    have a1:=hno 1 m (by omega)
    have a2:=hno 2 m (by omega)
    have a3:=hno 3 m (by omega)
    have b:=hyes m
    rcases hk with e | e | e | e <;> rw [e] at a1 a2 a3 b
    · exact loop_rt b
    · exact (loop_nx (a1 (by omega))).trans (loop_rt b)
    · exact (loop_nx (a1 (by omega))).trans ((loop_nx (a2 (by omega))).trans (loop_rt b))
    · exact (loop_nx (a1 (by omega))).trans ((loop_nx (a2 (by omega))).trans ((loop_nx (a3 (by omega))).trans (loop_rt b)))
  unfold Fq
  simp only [hst,Ad,hloop]
open Go.Abs
set_option linter.unusedVariables false
set_option linter.unusedSimpArgs false
/-- what a rule that is drawn is like -/
inductive GenRu:D_Rule -> Prop
  | link (k:Nat) (h:k <= 60):GenRu (1,((k:Int),(0,(0,()))))
  | stop (a:Nat) (h:a <= 60):GenRu (2,((a:Int),(0,(0,()))))
  | time (r t:Nat) (h:r <= 60 /\ t <= 60):GenRu (3,((r:Int),((t:Int),(0,()))))
  | work (r t e:Nat) (h:r <= 60 /\ t <= 60 /\ e <= 60):GenRu (4,((r:Int),((t:Int),((e:Int),()))))
  | pair (r a b:Nat) (h:r <= 60 /\ a <= 60 /\ b <= 60):GenRu (5,((r:Int),((a:Int),((b:Int),()))))
  | stock (s:Nat) (h:s <= 60):GenRu (6,((s:Int),(0,(0,()))))
theorem max1 (n:Nat) (h:1 <= n) (u:Unit):J2 ((n:Int),(1,u)) () = some ((n:Int),()):=by
  unfold J2
  by_cases h1:ltZ 1 (n:Int) = true
  · simp only [h1,if_true]
  · have:(n:Int) = 1:=by rw [ltZ_iff] at h1; omega
    rw [this]
    rfl
theorem quo7 (k:Nat) (h:k < 8):quoZ .i64 (k:Int) 7 = some ((k / 7:Nat):Int):=by
  have:k = 0 \/ k = 1 \/ k = 2 \/ k = 3 \/ k = 4 \/ k = 5 \/ k = 6 \/ k = 7:=by omega
  rcases this with rfl | rfl | rfl | rfl | rfl | rfl | rfl | rfl <;> rfl
theorem Aec (c:Ac) (hc:CurOk c) (p:Aa) (hP:GenP 3 p):∃ r c',GenRu r /\ CurOk c' /\ Kz (c,(p,())) () = some (r,c'):=by
  have hal:=hP.al
  have hkl:=hP.kl
  have hsl:=hP.sl
  have hrl:=hP.rl
  obtain ⟨k,hk,c1,hc1,e1⟩:=A0 c hc 7 (by omega) (by omega)
  have e1':Ae (c,(7,())) () = some ((k:Int),c1):=e1
  have fin:∀ cc:Ac,CurOk cc -> ∃ a c2,a < p.2.1.length /\ CurOk c2 /\ Ae (cc,((p.2.1.length:Int),())) () = some (((a:Nat):Int),c2):=fun cc hcc => by
    obtain ⟨a,ha,c2,hc2,e2⟩:=A0 cc hcc p.2.1.length (by omega) (by omega)
    exact ⟨a,c2,ha,hc2,e2⟩
  have hm:=fun u => max1 p.2.1.length (by omega) u
  obtain ⟨a,ca,ha,hca,ea⟩:=fin c1 hc1
  unfold Kz
  simp only [e1',Ad,lenI_eq]
  have hcases:k = 0 \/ k = 1 \/ (k = 2 \/ k = 3) \/ k = 4 \/ k = 5 \/ k = 6:=by omega
  rcases hcases with rfl | rfl | hk23 | rfl | rfl | rfl
  · by_cases h0:ltZ 0 (p.2.2.1.length:Int) = true
    · have hl:0 < p.2.2.1.length:=by rw [ltZ_iff] at h0; omega
      obtain ⟨v,hv,c2,hc2,e2⟩:=A0 c1 hc1 p.2.2.1.length hl (by omega)
      refine ⟨_,c2,.link v (by omega),hc2,?_⟩
      simp [eqZ_dec,h0,e2]
    · refine ⟨_,ca,.stop a (by omega),hca,?_⟩
      simp [eqZ_dec,h0,hm,ea]
  · by_cases h0:ltZ 0 (p.2.2.2.2.1.length:Int) = true
    · have hl:0 < p.2.2.2.2.1.length:=by rw [ltZ_iff] at h0; omega
      obtain ⟨v,hv,c2,hc2,e2⟩:=A0 c1 hc1 p.2.2.2.2.1.length hl (by omega)
      refine ⟨_,c2,.stock v (by omega),hc2,?_⟩
      simp [eqZ_dec,h0,e2]
    · refine ⟨_,ca,.stop a (by omega),hca,?_⟩
      simp [eqZ_dec,h0,hm,ea]
  · obtain ⟨t,ht,c2,hc2,e2⟩:=A0 c1 hc1 8 (by omega) (by omega)
    obtain ⟨q,hq,c3,hc3,e3⟩:=A0 c2 hc2 8 (by omega) (by omega)
    have hq7:=quo7 q hq
    have hadd:addZ .i64 (p.2.2.2.1.length:Int) ((q / 7:Nat):Int) = ((p.2.2.2.1.length + q / 7:Nat):Int):=by rw [addZ64 (by omega) (by omega)]; omega
    obtain ⟨r,hr,c4,hc4,e4⟩:=A0 c3 hc3 (p.2.2.2.1.length + q / 7) (by omega) (by omega)
    obtain ⟨d,hd,c5,hc5,e5⟩:=A0 c4 hc4 6 (by omega) (by omega)
    have hadd2:addZ .i64 (t:Int) 1 = ((t + 1:Nat):Int):=by rw [addZ64 (by omega) (by omega)]; omega
    have hadd3:addZ .i64 ((t + 1:Nat):Int) (d:Int) = ((t + 1 + d:Nat):Int):=by rw [addZ64 (by omega) (by omega)]; omega
    have e2':Ae (c1,(8,())) () = some ((t:Int),c2):=e2
    have e3':Ae (c2,(8,())) () = some ((q:Int),c3):=e3
    have e5':Ae (c4,(6,())) () = some ((d:Int),c5):=e5
    refine ⟨_,c5,.work r t (t + 1 + d) (by omega),hc5,?_⟩
    rcases hk23 with rfl | rfl
    · simp only [eqZ_dec]
      simp [-Int.natCast_add,-Int.natCast_ediv,e2',e3',hq7,hadd,e4,e5',hadd2,hadd3]
    · simp only [eqZ_dec]
      simp [-Int.natCast_add,-Int.natCast_ediv,e2',e3',hq7,hadd,e4,e5',hadd2,hadd3]
  · by_cases h0:ltZ 1 (p.2.1.length:Int) = true
    · have hl:1 < p.2.1.length:=by rw [ltZ_iff] at h0; omega
      have hs:subZ .i64 (p.2.1.length:Int) 1 = ((p.2.1.length - 1:Nat):Int):=by rw [subZ64 (by omega) (by omega)]; omega
      obtain ⟨x,hx,c2,hc2,e2⟩:=A0 c1 hc1 (p.2.1.length - 1) (by omega) (by omega)
      have hadd:addZ .i64 (p.2.2.2.1.length:Int) 1 = ((p.2.2.2.1.length + 1:Nat):Int):=by rw [addZ64 (by omega) (by omega)]; omega
      obtain ⟨r,hr,c3,hc3,e3⟩:=A0 c2 hc2 (p.2.2.2.1.length + 1) (by omega) (by omega)
      have hs2:subZ .i64 ((p.2.1.length - 1:Nat):Int) (x:Int) = ((p.2.1.length - 1 - x:Nat):Int):=by rw [subZ64 (by omega) (by omega)]; omega
      obtain ⟨y,hy,c4,hc4,e4⟩:=A0 c3 hc3 (p.2.1.length - 1 - x) (by omega) (by omega)
      have hadd2:addZ .i64 (x:Int) 1 = ((x + 1:Nat):Int):=by rw [addZ64 (by omega) (by omega)]; omega
      have hadd3:addZ .i64 ((x + 1:Nat):Int) (y:Int) = ((x + 1 + y:Nat):Int):=by rw [addZ64 (by omega) (by omega)]; omega
      refine ⟨_,c4,.pair r x (x + 1 + y) (by omega),hc4,?_⟩
      simp only [eqZ_dec,h0]
      simp [-Int.natCast_add,h0,hs,e2,hadd,e3,hs2,e4,hadd2,hadd3]
    · refine ⟨_,ca,.stop a (by omega),hca,?_⟩
      simp [eqZ_dec,h0,hm,ea]
  · obtain ⟨q,hq,c3,hc3,e3⟩:=A0 c1 hc1 8 (by omega) (by omega)
    have hq7:=quo7 q hq
    have hadd:addZ .i64 (p.2.2.2.1.length:Int) ((q / 7:Nat):Int) = ((p.2.2.2.1.length + q / 7:Nat):Int):=by rw [addZ64 (by omega) (by omega)]; omega
    obtain ⟨r,hr,c4,hc4,e4⟩:=A0 c3 hc3 (p.2.2.2.1.length + q / 7) (by omega) (by omega)
    obtain ⟨t,ht,c5,hc5,e5⟩:=A0 c4 hc4 12 (by omega) (by omega)
    have e3':Ae (c1,(8,())) () = some ((q:Int),c3):=e3
    have e5':Ae (c4,(12,())) () = some ((t:Int),c5):=e5
    refine ⟨_,c5,.time r t (by omega),hc5,?_⟩
    simp only [eqZ_dec]
    simp [-Int.natCast_add,-Int.natCast_ediv,e3',hq7,hadd,e4,e5']
  · refine ⟨_,ca,.stop a (by omega),hca,?_⟩
    simp [eqZ_dec,hm,ea]
theorem Abu (b:List Int) (hb:b.length <= 1048576) (p:Aa) (hP:GenP 3 p):∃ r,GenRu r /\ J8 (b,(p,())) () = some (r,()):=by
  unfold J8
  obtain ⟨c,hc,e⟩:=S4 b hb
  obtain ⟨r,c',hg,hc',e2⟩:=Aec (c.1,(c.2.1,((addZ .i64 c.2.2.1 13),c.2.2.2))) hc p hP
  simp only [e,Option.bind_some,e2]
  exact ⟨r,hg,rfl⟩
open Go.Abs
set_option linter.unusedVariables false
set_option linter.unusedSimpArgs false
theorem dig_nor (u:Nat) {b:UInt8} (hb:b.toNat < 45):b ∉ Lib.decDigits u:=fun h => by
  have:=(Nr u).1 _ h
  unfold isDig at this
  omega
theorem itoa_no {n:Int} {b:UInt8} (hb:b.toNat < 45):b ∉ Lib.itoa n:=fun h => by
  unfold Lib.itoa at h
  split at h
  · rcases List.mem_cons.1 h with h | h
    · subst h
      simp at hb
    · exact dig_nor _ hb h
  · exact dig_nor _ hb h
theorem itoa_ne (n:Int):Lib.itoa n ≠ []:=fun h => by
  unfold Lib.itoa at h
  split at h
  · cases h
  · exact digs_ne _ h
theorem Nh (p:Aa) (a:Int) (u:Unit):Bi (p,a,u) () = some (inB a 0 (subZ .i64 (lenI p.2.2.2.1) 1),()):=by
  unfold Bi
  simp only [Cy,Ad]
theorem Acj (p:Aa) (a:Int) (u:Unit):Da (p,a,u) () = some (inB a 0 (subZ .i64 (lenI p.2.2.2.2.1) 1),()):=by
  unfold Da
  simp only [Cy,Ad]
theorem Abq (p:Aa) (r:Nat) (hl:p.2.2.2.1.length <= 4096):∃ b,∀ u,Hm (p,((r:Int),u)) () = some (b,()):=by
  cases h:inB (r:Int) 0 (subZ .i64 (lenI p.2.2.2.1) 1) with
  | false =>
    refine ⟨false,fun u => ?_⟩
    unfold Hm
    simp only [Nh,h,Ad,Bool.false_eq_true,if_false]
  | true =>
    have hs:subZ .i64 (p.2.2.2.1.length:Int) 1 = (p.2.2.2.1.length:Int) - 1:=subZ64 (by omega) (by omega)
    have h2:=h
    rw [lenI_eq,hs,inB_iff] at h2
    have hr:r < p.2.2.2.1.length:=by omega
    refine ⟨ltZ 0 (lenI p.2.2.2.1[r].2.1),fun u => ?_⟩
    unfold Hm
    simp only [Nh,h,Ad,if_true,getI_lt hr]
/-- the activities that a rule names are there -/
def RdOk (p:Aa) (r:D_Rule):Prop:=(r.1 = 2 -> r.2.1 < p.2.1.length) /\ (r.1 = 5 -> r.2.2.1 < p.2.1.length /\ r.2.2.2.1 < p.2.1.length)
theorem Agt {p:Aa} {r:D_Rule} (hP:GenP 3 p) (h:GenRu r):∃ b,(∀ u,Dc (p,(r,u)) () = some (b,())) /\ (b = true -> RdOk p r):=by
  have hal:=hP.al
  have hrl:=hP.rl
  have hpo:=fun u => I3 p u (hP.sm (by omega) (by omega))
  have hpj:=hP.ok (by omega)
  have hs:subZ .i64 (p.2.1.length:Int) 1 = (p.2.1.length:Int) - 1:=subZ64 (by omega) (by omega)
  cases h with
  | link k h =>
    refine ⟨inB (k:Int) 0 (subZ .i64 (lenI p.2.2.1) 1),fun u => ?_,fun _ => ⟨fun h => by simp at h,fun h => by simp at h⟩⟩
    unfold Dc
    simp only [hpo,hpj,Ad,A9,Bool.false_eq_true,if_false,eqZ_dec,Cy]
    generalize inB (k:Int) 0 (subZ .i64 (lenI p.2.2.1) 1) = b
    cases b <;> simp
  | stop a h =>
    refine ⟨inB (a:Int) 0 (subZ .i64 (lenI p.2.1) 1),fun u => ?_,fun hb => ⟨fun _ => ?_,fun h => by simp at h⟩⟩
    · unfold Dc
      simp only [hpo,hpj,Ad,A9,Bool.false_eq_true,if_false,eqZ_dec,Ng]
      generalize inB (a:Int) 0 (subZ .i64 (lenI p.2.1) 1) = b
      cases b <;> simp
    · rw [lenI_eq,hs,inB_iff] at hb
      show (a:Int) < _
      omega
  | time r t h =>
    refine ⟨inB (r:Int) 0 (subZ .i64 (lenI p.2.2.2.1) 1) && inB (t:Int) 0 60,fun u => ?_,fun _ => ⟨fun h => by simp at h,fun h => by simp at h⟩⟩
    unfold Dc
    simp only [hpo,hpj,Ad,A9,Bool.false_eq_true,if_false,eqZ_dec,Nh,Ss]
    generalize inB (r:Int) 0 (subZ .i64 (lenI p.2.2.2.1) 1) = b
    generalize inB (t:Int) 0 60 = b2
    cases b <;> cases b2 <;> simp
  | work r t e h =>
    refine ⟨inB (r:Int) 0 (subZ .i64 (lenI p.2.2.2.1) 1) && inB (t:Int) 0 60 && inB (e:Int) 0 60 && ltZ (t:Int) (e:Int),fun u => ?_,fun _ => ⟨fun h => by simp at h,fun h => by simp at h⟩⟩
    unfold Dc
    simp only [hpo,hpj,Ad,A9,Bool.false_eq_true,if_false,eqZ_dec,Nh,Ss]
    generalize inB (r:Int) 0 (subZ .i64 (lenI p.2.2.2.1) 1) = b
    generalize inB (t:Int) 0 60 = b2
    generalize inB (e:Int) 0 60 = b3
    generalize ltZ (t:Int) (e:Int) = b4
    cases b <;> cases b2 <;> cases b3 <;> cases b4 <;> simp
  | pair r a b h =>
    obtain ⟨bm,hbm⟩:=Abq p r (by omega)
    refine ⟨bm && inB (a:Int) 0 (subZ .i64 (lenI p.2.1) 1) && inB (b:Int) 0 (subZ .i64 (lenI p.2.1) 1) && ltZ (a:Int) (b:Int),fun u => ?_,fun hb => ⟨fun h => by simp at h,fun _ => ?_⟩⟩
    · unfold Dc
      simp only [hpo,hpj,Ad,A9,Bool.false_eq_true,if_false,eqZ_dec,hbm,Ng]
      generalize inB (a:Int) 0 (subZ .i64 (lenI p.2.1) 1) = b2
      generalize inB (b:Int) 0 (subZ .i64 (lenI p.2.1) 1) = b3
      generalize ltZ (a:Int) (b:Int) = b4
      cases bm <;> cases b2 <;> cases b3 <;> cases b4 <;> simp
    · simp only [Bool.and_eq_true,lenI_eq,hs,inB_iff] at hb
      show (a:Int) < _ /\ (b:Int) < _
      omega
  | stock s h =>
    refine ⟨inB (s:Int) 0 (subZ .i64 (lenI p.2.2.2.2.1) 1),fun u => ?_,fun _ => ⟨fun h => by simp at h,fun h => by simp at h⟩⟩
    unfold Dc
    simp only [hpo,hpj,Ad,A9,Bool.false_eq_true,if_false,eqZ_dec,Acj]
    generalize inB (s:Int) 0 (subZ .i64 (lenI p.2.2.2.2.1) 1) = b
    cases b <;> simp
/-- the words of a rule -/
def N8:D_Rule -> List (List UInt8):=fun r =>
  if r.1 = 2 then [ruleOf 2,genName r.2.1.toNat] else if r.1 = 3 then [ruleOf 3,Lib.itoa r.2.1,Lib.itoa r.2.2.1] else if r.1 = 4 then [ruleOf 4,Lib.itoa r.2.1,Lib.itoa r.2.2.1,Lib.itoa r.2.2.2.1]
  else if r.1 = 5 then [ruleOf 5,Lib.itoa r.2.1,genName r.2.2.1.toNat,genName r.2.2.2.1.toNat] else [ruleOf r.1,Lib.itoa r.2.1]
def Yl (r:D_Rule):List UInt8:=Lib.join (N8 r) [32]
theorem Acp (n:Int) (u:Unit):Lb (n,u) () = some (ruleOf n,()):=rfl
theorem Fv (i:Nat):(genName i).length <= 2:=by
  match i with
  | 0 | 1 | 2 | 3 | 4 | n + 5 => simp [genName]
theorem add_ll {x y:List (List UInt8)} (h:x.length + y.length <= 4096):addI x y = some (x ++ y):=addI_ok (by rw [room_eq]; omega)
theorem Nz {xs:List (List UInt8)} (hn:xs.length <= 8) (hx:∀ x ∈ xs,x.length <= 8) (u:Unit):strings_Join (xs,([32],u)) () = some (Lib.join xs [32],()):=
  Q5 xs [32] u (by omega) (fun x hx' => by have:=hx x hx'; omega) (by simp)
theorem Ur {p:Aa} {r:D_Rule} (hP:GenP 3 p) (h:GenRu r) (hok:∀ u,Dc (p,(r,u)) () = some (true,())) (hrd:RdOk p r) (u:Unit):Cw (p,(r,u)) () = some (Yl r,()):=by
  have hal:=hP.al
  have fi:∀ (n:Nat) (u:Unit),n <= 60 -> Aq ((n:Int),u) () = some (Lib.itoa (n:Int),()):=fun n u hn => by rw [Ew,fmtV_in (by omega) (by omega)]
  have il:∀ n:Nat,n <= 60 -> (Lib.itoa (n:Int)).length <= 8:=fun n hn => by have:=Ck (n:=(n:Int)) (by omega) (by omega); omega
  have gl:∀ i,(genName i).length <= 8:=fun i => by have:=Fv i; omega
  unfold Cw Yl
  simp only [hok,Ad,A9,Bool.false_eq_true,if_false,Acp,eqZ_dec]
  cases h with
  | link k h =>
    simp [fi k _ h,N8]
    rw [Nz (by simp) (by simp [il k h,ruleOf])]
    rfl
  | stop a h =>
    have ha:a < p.2.1.length:=by have:=hrd.1 rfl; have:(a:Int) < _:=this; omega
    have g1:getI [ruleOf 2,Lib.itoa (a:Int)] (1:Int) = some (Lib.itoa (a:Int)):=rfl
    have g2:setI [ruleOf 2,Lib.itoa (a:Int)] (1:Int) (fun _ => genName a) = [ruleOf 2,genName a]:=rfl
    simp [fi a _ h,N8,getI_lt ha,(hP.a a ha).name,g1,g2]
    rw [Nz (by simp) (by simp [gl,ruleOf])]
    rfl
  | time r t h =>
    simp [fi r _ h.1,fi t _ h.2,N8]
    rw [add_ll (by simp)]
    simp only [Ad,List.cons_append,List.nil_append]
    rw [Nz (by simp) (by simp [il r h.1,il t h.2,ruleOf])]
    rfl
  | work r t e h =>
    simp [fi r _ h.1,fi t _ h.2.1,fi e _ h.2.2,N8]
    rw [add_ll (by simp)]
    simp only [Ad,List.cons_append,List.nil_append]
    rw [Nz (by simp) (by simp [il r h.1,il t h.2.1,il e h.2.2,ruleOf])]
    rfl
  | pair r a b h =>
    have hab:=hrd.2 rfl
    have hab:(a:Int) < _ /\ (b:Int) < _:=hab
    have ha:a < p.2.1.length:=by omega
    have hb:b < p.2.1.length:=by omega
    simp [fi r _ h.1,getI_lt ha,getI_lt hb,(hP.a a ha).name,(hP.a b hb).name,N8]
    rw [add_ll (by simp)]
    simp only [Ad,List.cons_append,List.nil_append]
    rw [Nz (by simp) (by simp [il r h.1,gl,ruleOf])]
    rfl
  | stock s h =>
    simp [fi s _ h,N8]
    rw [Nz (by simp) (by simp [il s h,ruleOf])]
    rfl
/-- a word that is read as a number or as a name -/
def RdW (p:Aa) (w:List UInt8) (m:Int):Prop:=∃ n:Int × Bool × Unit,(Az (w,()) ()).map (·.1) = some n /\ (if n.2.1 = true then some n.1 else (Ax (p,w,()) ()).map (·.1)) = some m
theorem rd_int {p:Aa} {n:Nat} (h:n <= 60):RdW p (Lib.itoa (n:Int)) (n:Int):=by
  refine ⟨((n:Int),true,()),?_,rfl⟩
  rw [Dp _ _ (by have:=Ck (n:=(n:Int)) (by omega) (by omega); omega),pI_itoa (by omega) (by omega)]
  rfl
theorem pI_name {i:Nat} (h:i < 3):pI (genName i) = (0,false):=by
  obtain ⟨c,hc,h1,h2⟩:=gen_one h
  rcases Ag2 (genName i) with h | ⟨n,-,-,hn,-⟩
  · exact h.1
  · exfalso
    rw [hc] at hn
    have hm:c ∈ Lib.itoa n:=by rw [hn]; simp
    unfold Lib.itoa at hm
    split at hm
    · rcases List.mem_cons.1 hm with hm | hm
      · subst hm
        simp at h1
      · have:=(Nr _).1 _ hm
        unfold isDig at this
        omega
    · have:=(Nr _).1 _ hm
      unfold isDig at this
      omega
theorem rd_name {p:Aa} (hP:GenP 3 p) {i:Nat} (h:i < p.2.1.length):RdW p (genName i) (i:Int):=by
  have hal:=hP.al
  refine ⟨(0,false,()),?_,?_⟩
  · rw [Dp _ _ (by have:=Fv i; omega),pI_name (by omega)]
    rfl
  · rw [Gl _ _ _ (by omega),Qh hP (by omega) h]
    rfl
theorem My {p:Aa} {w:List UInt8} {m:Int} (h:RdW p w m) {i:Nat} (hi:i <= 2) (r:List (List UInt8)) (f:Int × Int × Int) :
    prL (fun w => (Az (w,()) ()).map (·.1)) (fun w => (Ax (p,w,()) ()).map (·.1)) (w :: r) i f = prL (fun w => (Az (w,()) ()).map (·.1)) (fun w => (Ax (p,w,()) ()).map (·.1)) r (i + 1) (put3 f i m):=by
  obtain ⟨n,h1,h2⟩:=h
  rw [prL]
  rw [if_neg (by omega),h1,Option.bind_some,h2,Option.bind_some]
theorem prF_yes {FS:Ty.dens [.str,.str] -> Unit -> Option (List Txt × Unit)} {FP:Ty.dens [.str] -> Unit -> Option ((Int × Bool × Unit) × Unit)} {FA:Ty.dens [prjU,.str] -> Unit -> Option (Int × Unit)} {FF:Ty.dens [prjU,rulU] -> Unit -> Option (Txt × Unit)} {p:prjU.den} {s w0:Txt} {ws:List Txt} {f:Int × Int × Int}
    (h1:FS (s,[32],()) () = some (w0 :: ws,())) (h2:prL (fun w => (FP (w,()) ()).map (·.1)) (fun w => (FA (p,w,()) ()).map (·.1)) ws 0 (0,0,0) = some (some f)) (hne:s ≠ []) (h3:FF (p,(prK w0 6 1 0,f.1,f.2.1,f.2.2,()),()) () = some (s,())) :
    prF FS FP FA FF (p,s,()) () = some (((prK w0 6 1 0,f.1,f.2.1,f.2.2,()),true,()),()):=by
  show Option.bind (Option.map (·.1) (FS (s,[32],()) ())) _ = _
  rw [h1]
  show Option.bind (prL (fun w => (FP (w,()) ()).map (·.1)) (fun w => (FA (p,w,()) ()).map (·.1)) ws 0 (0,0,0)) _ = _
  rw [h2]
  show (if s = [] then _ else _) = _
  rw [if_neg hne]
  show Option.bind (Option.map (·.1) (FF (p,(prK w0 6 1 0,f.1,f.2.1,f.2.2,()),()) ())) _ = _
  rw [h3]
  show (if s = s then _ else _) = _
  rw [if_pos rfl]
theorem prF_nil {FS:Ty.dens [.str,.str] -> Unit -> Option (List Txt × Unit)} {FP:Ty.dens [.str] -> Unit -> Option ((Int × Bool × Unit) × Unit)} {FA:Ty.dens [prjU,.str] -> Unit -> Option (Int × Unit)} {FF:Ty.dens [prjU,rulU] -> Unit -> Option (Txt × Unit)} {p:prjU.den}
    (h1:FS ([],[32],()) () = some ([[]],())):prF FS FP FA FF (p,[],()) () = some (((0,0,0,0,()),false,()),()):=by
  show Option.bind (Option.map (·.1) (FS ([],[32],()) ())) _ = _
  rw [h1]
  rfl
theorem Jp {p:Aa} {r:D_Rule} {w0:List UInt8} {ws:List (List UInt8)} {f:Int × Int × Int} (hs:∀ w ∈ w0 :: ws,(32:UInt8) ∉ w) (hl:(Lib.join (w0 :: ws) [32]).length <= 4096) (hne:Lib.join (w0 :: ws) [32] ≠ [])
    (hk:prK w0 6 1 0 = r.1) (hw:prL (fun w => (Az (w,()) ()).map (·.1)) (fun w => (Ax (p,w,()) ()).map (·.1)) ws 0 (0,0,0) = some (some f)) (hr:r = (r.1,f.1,f.2.1,f.2.2,()))
    (hF:∀ u,Cw (p,(r,u)) () = some (Lib.join (w0 :: ws) [32],())) (u:Unit):Hk (p,(Lib.join (w0 :: ws) [32],u)) () = some ((r,(true,())),()):=by
  have hsp:=L9 (Lib.join (w0 :: ws) [32]) 32 () (by omega)
  rw [Oa (by simp) hs] at hsp
  have hF':=hF ()
  rw [hr,<- hk] at hF'
  cases u
  refine (prF_yes hsp hw hne hF').trans ?_
  rw [hk]
  rw [<- hr]
theorem join_ne {w0:List UInt8} {ws:List (List UInt8)} (h:w0 ≠ []):Lib.join (w0 :: ws) [32] ≠ []:=by
  cases w0 with
  | nil => exact absurd rfl h
  | cons a l => cases ws <;> simp [Lib.join,Lib.joinTail]
theorem gen_no {i:Nat}:(32:UInt8) ∉ genName i:=by
  match i with
  | 0 | 1 | 2 | 3 | 4 | n + 5 => simp [genName]
theorem Abw {p:Aa} {r:D_Rule} (hP:GenP 3 p) (h:GenRu r) (hok:∀ u,Dc (p,(r,u)) () = some (true,())) (hrd:RdOk p r) (u:Unit):Hk (p,(Yl r,u)) () = some ((r,(true,())),()):=by
  have hF:=fun u => Ur hP h hok hrd u
  have hal:=hP.al
  have il:∀ n:Nat,n <= 60 -> (Lib.itoa (n:Int)).length <= 8:=fun n hn => by have:=Ck (n:=(n:Int)) (by omega) (by omega); omega
  have gl:∀ i,(genName i).length <= 8:=fun i => by have:=Fv i; omega
  have ino:∀ n:Int,(32:UInt8) ∉ Lib.itoa n:=fun n => itoa_no (by decide)
  have jl:∀ ws:List (List UInt8),ws.length <= 8 -> (∀ x ∈ ws,x.length <= 8) -> (Lib.join ws [32]).length <= 4096:=fun ws h1 h2 => by
    have:=Ve (sep:=[32]) (B:=9) (xs:=ws) fun x hx => by have:=h2 x hx; simp; omega
    omega
  cases h with
  | link k h =>
    refine Jp (w0:=ruleOf 1) (ws:=[Lib.itoa (k:Int)]) (f:=((k:Int),0,0)) (by simp [ino,ruleOf]) (jl _ (by simp) (by simp [il k h,ruleOf])) (join_ne (by decide)) (show prK (ruleOf 1) 6 1 0 = 1 by decide) ?_ rfl hF u
    rw [My (rd_int h) (by omega)]
    rfl
  | stop a h =>
    have ha:a < p.2.1.length:=by have:=hrd.1 rfl; have:(a:Int) < _:=this; omega
    refine Jp (w0:=ruleOf 2) (ws:=[genName a]) (f:=((a:Int),0,0)) (by simp [gen_no,ruleOf]) (jl _ (by simp) (by simp [gl,ruleOf])) (join_ne (by decide)) (show prK (ruleOf 2) 6 1 0 = 2 by decide) ?_ rfl hF u
    rw [My (rd_name hP ha) (by omega)]
    rfl
  | time r t h =>
    refine Jp (w0:=ruleOf 3) (ws:=[Lib.itoa (r:Int),Lib.itoa (t:Int)]) (f:=((r:Int),(t:Int),0)) (by simp [ino,ruleOf]) (jl _ (by simp) (by simp [il r h.1,il t h.2,ruleOf])) (join_ne (by decide)) (show prK (ruleOf 3) 6 1 0 = 3 by decide) ?_ rfl hF u
    rw [My (rd_int h.1) (by omega),My (rd_int h.2) (by omega)]
    rfl
  | work r t e h =>
    refine Jp (w0:=ruleOf 4) (ws:=[Lib.itoa (r:Int),Lib.itoa (t:Int),Lib.itoa (e:Int)]) (f:=((r:Int),(t:Int),(e:Int))) (by simp [ino,ruleOf]) (jl _ (by simp) (by simp [il r h.1,il t h.2.1,il e h.2.2,ruleOf])) (join_ne (by decide)) (show prK (ruleOf 4) 6 1 0 = 4 by decide) ?_ rfl hF u
    rw [My (rd_int h.1) (by omega),My (rd_int h.2.1) (by omega),My (rd_int h.2.2) (by omega)]
    rfl
  | pair r a b h =>
    have hab:=hrd.2 rfl
    have hab:(a:Int) < _ /\ (b:Int) < _:=hab
    have ha:a < p.2.1.length:=by omega
    have hb:b < p.2.1.length:=by omega
    refine Jp (w0:=ruleOf 5) (ws:=[Lib.itoa (r:Int),genName a,genName b]) (f:=((r:Int),(a:Int),(b:Int))) (by simp [ino,gen_no,ruleOf]) (jl _ (by simp) (by simp [il r h.1,gl,ruleOf])) (join_ne (by decide)) (show prK (ruleOf 5) 6 1 0 = 5 by decide) ?_ rfl hF u
    rw [My (rd_int h.1) (by omega),My (rd_name hP ha) (by omega),My (rd_name hP hb) (by omega)]
    rfl
  | stock s h =>
    refine Jp (w0:=ruleOf 6) (ws:=[Lib.itoa (s:Int)]) (f:=((s:Int),0,0)) (by simp [ino,ruleOf]) (jl _ (by simp) (by simp [il s h,ruleOf])) (join_ne (by decide)) (show prK (ruleOf 6) 6 1 0 = 6 by decide) ?_ rfl hF u
    rw [My (rd_int h) (by omega)]
    rfl
/-- the empty text is no rule -/
theorem Zr (p:Aa) (u:Unit):Hk (p,([],u)) () = some (((0,(0,(0,(0,())))),(false,())),()):=by
  cases u
  exact prF_nil (L9 [] 32 () (by simp))
theorem Yp {p:Aa} {r:D_Rule} (hok:∀ u,Dc (p,(r,u)) () = some (false,())) (u:Unit):Cw (p,(r,u)) () = some ([],()):=by
  unfold Cw
  simp only [hok,Ad,notB,Bool.not_false,if_true]
open Go.Abs
set_option linter.unusedVariables false
set_option linter.unusedSimpArgs false
def Ig (b:Bool):List UInt8:=if b = true then [101,110,100] else [115,116,97,114,116]
theorem Uo (b:Bool):(Ig b).length <= 8:=by cases b <;> decide
def Jj (k:D_Link):List (List UInt8):=[Ig k.2.2.1,genName k.1.toNat,genName k.2.1.toNat,Lib.itoa k.2.2.2.1]
structure LinkG (n:Nat) (k:D_Link) (f t:Nat):Prop where
  hf:k.1 = (f:Int)
  f:f < n
  ht:k.2.1 = (t:Int)
  t:t < n
  g:-60 <= k.2.2.2.1 /\ k.2.2.2.1 <= 60
theorem link_g {p:Aa} (hP:GenP 3 p) {k:D_Link} (hk:k ∈ p.2.2.1):∃ f t,LinkG p.2.1.length k f t:=by
  have hl:=hP.k k hk
  have hal:=hP.al
  have hs:subZ .i64 (p.2.1.length:Int) 1 = (p.2.1.length:Int) - 1:=subZ64 (by omega) (by omega)
  unfold linkB at hl
  rw [hs] at hl
  simp only [Bool.and_eq_true,inB_iff] at hl
  exact ⟨k.1.toNat,k.2.1.toNat,by omega,by omega,by omega,by omega,hl.2⟩
theorem ad8 {x y:List UInt8} (h:x.length + y.length <= 100000):addI x y = some (x ++ y):=addI_ok (by rw [room_eq]; omega)
theorem Xr {p:Aa} (hP:GenP 3 p) {k:D_Link} (hk:k ∈ p.2.2.1) (u:Unit):Cj (p,(k,u)) () = some (Lib.join (Jj k) [32],()):=by
  obtain ⟨f,t,h⟩:=link_g hP hk
  obtain ⟨k1,k2,b,g,uu⟩:=k
  obtain ⟨rfl,hf,rfl,ht,hg⟩:=h
  have hg:-60 <= g /\ g <= 60:=hg
  have hal:=hP.al
  have nf:=(hP.a f hf).name
  have nt:=(hP.a t ht).name
  have lf:=Fv f
  have lt:=Fv t
  have lg:=Ck (n:=g) (by omega) (by omega)
  have lw:=Uo b
  have ef:=fun u => Ew g u
  rw [fmtV_in (by omega) (by omega)] at ef
  unfold Cj
  cases b <;> simp only [if_true,Bool.false_eq_true,if_false,Ad,getI_lt hf,getI_lt ht,nf,nt,ef]
  all_goals
    rw [ad8 (by simp)]
    simp only [Ad]
    rw [ad8 (by simp; omega)]
    simp only [Ad]
    rw [ad8 (by simp; omega)]
    simp only [Ad]
    rw [ad8 (by simp; omega)]
    simp only [Ad]
    rw [ad8 (by simp; omega)]
    simp only [Ad]
    rw [ad8 (by simp; omega)]
    simp [Jj,Ig,Lib.join,Lib.joinTail]
def Add (p:Aa) (k:D_Link):Aa:=(p.1,p.2.1,p.2.2.1 ++ [k],p.2.2.2)
theorem Acc {p:Aa} (hP:GenP 3 p) {k:D_Link} (hk:k ∈ p.2.2.1):projB (Add p k) = true:=by
  have h:=hP.ok (by omega)
  have hkl:=hP.kl
  unfold projB at h ⊢
  simp only [Bool.and_eq_true] at h ⊢
  obtain ⟨⟨⟨⟨⟨⟨⟨⟨h1,h2⟩,h3⟩,h4⟩,h5⟩,h6⟩,h7⟩,h8⟩,h9⟩:=h
  refine ⟨⟨⟨⟨⟨⟨⟨⟨h1,h2⟩,h3⟩,h4⟩,?_⟩,h6⟩,h7⟩,h8⟩,?_⟩
  · have e:ltZ 12 (lenI (Add p k).2.2.1) = false:=by
      rw [Bool.eq_false_iff,Ne,ltZ_iff,lenI_eq]
      show ¬ (12:Int) < ((p.2.2.1 ++ [k]).length:Nat)
      simp only [List.length_append,List.length_cons,List.length_nil]
      omega
    rw [e]
    rfl
  · show ((p.2.2.1 ++ [k]).all (linkB (lenI p.2.1))) = true
    rw [List.all_eq_true] at h9 ⊢
    intro x hx
    rcases List.mem_append.1 hx with hx | hx
    · exact h9 x hx
    · simp at hx
      subst hx
      exact h9 _ hk
theorem Aa7 {p:Aa} (hP:GenP 3 p) {k:D_Link} (hk:k ∈ p.2.2.1) (u:Unit):H5 (p,(k,u)) () = some (Lib.join (Jj k) [32],()):=by
  have hkl:=hP.kl
  have sm:=hP.sm (by omega) (B:=1048576) (by omega)
  have sm':=hP.sm (by omega) (B:=1099511627776) (by omega)
  have ha:addI p.2.2.1 [k] = some (p.2.2.1 ++ [k]):=addI_ok (by rw [room_eq]; simp; omega)
  have hw':L6 1099511627776 (p.1,p.2.1,p.2.2.1 ++ [k],p.2.2.2):=⟨sm'.1,sm'.2.1,⟨by show (p.2.2.1 ++ [k]).length <= _; simp; omega,fun x hx => ⟨trivial,trivial,trivial,trivial,trivial⟩⟩,sm'.2.2.2⟩
  have k2:=fun u => I3 (p.1,p.2.1,p.2.2.1 ++ [k],p.2.2.2) u hw'
  have ew:projB (p.1,p.2.1,p.2.2.1 ++ [k],p.2.2.2) = true:=Acc hP hk
  unfold H5
  simp only [Ae8 _ _ sm,Ad,ha,k2,ew,A9,Bool.false_eq_true,if_false,Xr hP hk]
theorem Acz {w0:List UInt8} {ws:List (List UInt8)} {b:UInt8} (h:w0 ≠ []):Lib.join (w0 :: ws) [b] ≠ []:=by
  cases w0 with
  | nil => exact absurd rfl h
  | cons a l => cases ws <;> simp [Lib.join,Lib.joinTail]
theorem Zy (k:D_Link):Lib.join (Jj k) [32] ≠ []:=Acz (by unfold Ig; split <;> simp)
theorem Wy {p:Aa} (hP:GenP 3 p) (u:Unit):∃ m,F2 (p,u) () = some ([(p.2.1.length:Int),m,(p.2.2.1.length:Int),(p.2.2.2.1.length:Int),(p.2.2.2.2.1.length:Int)],()):=by
  have hal:=hP.al
  have sm':=hP.sm (by omega) (B:=1099511627776) (by omega)
  have hpo:=fun u => I3 p u sm'
  have hpj:=hP.ok (by omega)
  obtain ⟨o,ho,m,rfl⟩:=A5 (A:=Fk) (F:=G6) p.2.1.length
    (fun j t => ∃ m:Int,t = ((j:Int),((p.2.1.length:Int),(p.2.1,(m,(p,()))))))
    (fun o => ∃ m:Int,o = .exit (Sum.inl (false,((p.2.1.length:Int),((p.2.1.length:Int),(p.2.1,(m,(p,()))))))))
    (fun i s hi hI => by
      obtain ⟨m,rfl⟩:=hI
      unfold G6
      by_cases h:i < p.2.1.length
      · simp only [lt_yes h,if_true,getI_lt h,Ad,idxN h (by omega:p.2.1.length <= 1099511627776) (Nat.le_refl _)]
        exact ⟨_,rfl,h,_,rfl⟩
      · obtain rfl:i = p.2.1.length:=by omega
        simp only [lt_no,Bool.false_eq_true,if_false]
        exact ⟨_,rfl,m,rfl⟩) (s:=(0,((p.2.1.length:Int),(p.2.1,(0,(p,())))))) ⟨0,rfl⟩ (by unfold big; omega)
  refine ⟨m,?_⟩
  unfold F2
  simp only [hpo,hpj,Ad,A9,Bool.false_eq_true,if_false,lenI_eq,ho]
open Go.Abs
set_option linter.unusedVariables false
set_option linter.unusedSimpArgs false
theorem idx_at {c:UInt8} {r:List UInt8}:∀ {w:List UInt8},c ∉ w -> Lib.indexByte (w ++ c :: r) c = (w.length:Int)
  | [],_ => by simp [Lib.indexByte]
  | a :: w,h => by
    have h1:a ≠ c:=fun e => h (by rw [e]; simp)
    have h2:=idx_at (r:=r) (w:=w) fun hm => h (List.mem_cons_of_mem _ hm)
    have h3:(a == c) = false:=by simpa using h1
    show (if a == c then (0:Int) else if Lib.indexByte (w ++ c :: r) c == -1 then -1 else Lib.indexByte (w ++ c :: r) c + 1) = _
    rw [h3,h2,if_neg (by simp),if_neg (by first | (simp; done) | (simp; omega))]
    simp
theorem Cut_eq {w r:List UInt8} {c:UInt8} (h:c ∉ w) (hl:w.length + r.length <= 100000) (u:Unit):H0 (w ++ c :: r,([c],u)) () = some ((w,(r,(true,()))),()):=by
  have hi:Cs (w ++ c :: r,([c],u)) () = some ((w.length:Int),()):=by
    show some (Lib.indexByte (w ++ c :: r) c,()) = _
    rw [idx_at h]
  have hle:leZ 0 (w.length:Int) = true:=by rw [leZ_iff]; omega
  have ha:addZ .i64 (w.length:Int) 1 = ((w.length + 1:Nat):Int):=by rw [addZ64 (by omega) (by omega)]; omega
  have c1:cutI (w ++ c :: r) 0 (w.length:Int) = some w:=by
    rw [show (0:Int) = ((0:Nat):Int) from rfl,cut_to (by omega) (by simp)]
    simp
  have c2:cutI (w ++ c :: r) ((w.length + 1:Nat):Int) ((w ++ c :: r).length:Int) = some r:=by
    rw [cut_to (by first | (simp; done) | (simp; omega)) (Nat.le_refl _),List.take_length]
    simp
  unfold H0 C9
  simp only [hi,Ad,hle,if_true,c1,lenI_eq]
  have ha':addZ .i64 (w.length:Int) (([c]:List UInt8).length:Int) = ((w.length + 1:Nat):Int):=ha
  rw [ha',c2]
  rfl
def schWord (st md:List Int) (i:Nat):List UInt8:=genName i ++ 64 :: (Lib.itoa ((st[i]?).getD 0) ++ 47 :: Lib.itoa ((md[i]?).getD 0))
def Ip (st md:List Int) (n:Nat):List (List UInt8):=(List.range n).map (schWord st md)
def schText (st md:List Int) (n:Nat):List UInt8:=Lib.join (Ip st md n) [32]
theorem Y1 (st md:List Int) (n:Nat):Ip st md (n + 1) = Ip st md n ++ [schWord st md n]:=by simp [Ip,List.range_succ]
theorem Ko (st md:List Int) (n:Nat):(Ip st md n).length = n:=by simp [Ip]
theorem Ab9 {st md:List Int} {n i:Nat} (h:i < n):(Ip st md n)[i]'(by rw [Ko]; exact h) = schWord st md i:=by simp [Ip]
section
variable {p:Aa} {st md:List Int}
theorem sch_at (hP:GenP 3 p) (hS:GenS p.2.1 p.2.1.length st md) {i:Nat} (hi:i < p.2.1.length):∃ (x m:Int),st[i]? = some x /\ md[i]? = some m /\ (0 <= x /\ x <= 24) /\ 0 <= m /\ m < (p.2.1[i].2.2.1.length:Int) /\ m <= 1:=by
  have h1:i < st.length:=by rw [hS.s1]; exact hi
  have h2:i < md.length:=by rw [hS.m1]; exact hi
  have h3:=hS.s _ (List.getElem_mem h1)
  have h4:=hS.m i h2 hi
  have h5:=(hP.a i hi).ml
  exact ⟨st[i],md[i],List.getElem?_eq_getElem h1,List.getElem?_eq_getElem h2,h3,h4.1,h4.2,by omega⟩
theorem Ahd (hP:GenP 3 p) (hS:GenS p.2.1 p.2.1.length st md):formB p (st,(md,())) = true:=by
  have hal:=hP.al
  unfold formB
  simp only [Bool.and_eq_true,List.all_eq_true]
  refine ⟨⟨⟨hP.ok (by omega),?_⟩,?_⟩,fun i hi => ?_⟩
  · rw [lenI_eq,lenI_eq,eqZ_dec,decide_eq_true_eq,hS.s1]
  · rw [lenI_eq,lenI_eq,eqZ_dec,decide_eq_true_eq,hS.m1]
  · have hi:i < p.2.1.length:=by simpa using hi
    obtain ⟨x,m,h1,h2,h3,h4,h5,h6⟩:=sch_at hP hS hi
    have hml:=(hP.a i hi).ml
    unfold formI
    rw [List.getElem?_eq_getElem hi]
    simp only [h1,h2,Bool.and_eq_true,inB_iff]
    have hs:subZ .i64 (p.2.1[i].2.2.1.length:Int) 1 = (p.2.1[i].2.2.1.length:Int) - 1:=subZ64 (by omega) (by omega)
    rw [lenI_eq,hs]
    omega
theorem Wr (hP:GenP 3 p) (hS:GenS p.2.1 p.2.1.length st md) {i:Nat} (hi:i < p.2.1.length):(schWord st md i).length <= 18:=by
  obtain ⟨x,m,h1,h2,h3,h4,h5,h6⟩:=sch_at hP hS hi
  have l1:=Fv i
  have l2:=Ck (n:=x) (by omega) (by omega)
  have l3:=Ck (n:=m) (by omega) (by omega)
  unfold schWord
  rw [h1,h2]
  simp only [Option.getD_some,List.length_append,List.length_cons]
  omega
theorem Ab1 (hP:GenP 3 p) (hS:GenS p.2.1 p.2.1.length st md):(schText st md p.2.1.length).length <= 1000:=by
  have hal:=hP.al
  have:=Ve (B:=19) (xs:=Ip st md p.2.1.length) (sep:=[32]) fun x hx => by
    obtain ⟨i,hi,rfl⟩:=List.mem_map.1 hx
    have:=Wr hP hS (i:=i) (by simpa using hi)
    simp only [List.length_singleton]
    omega
  rw [Ko] at this
  unfold schText
  omega
theorem P9 (hP:GenP 3 p) (hS:GenS p.2.1 p.2.1.length st md) (u:Unit):Cv (p,((st,(md,())),u)) () = some (schText st md p.2.1.length,()):=by
  have hal:=hP.al
  have sm:=hP.sm (by omega) (B:=1099511627776) (by omega)
  have hf:=Ahd hP hS
  obtain ⟨o,ho,rfl⟩:=A5 (A:=El) (F:=Fj) p.2.1.length
    (fun j t => t = ((j:Int),((p.2.1.length:Int),(p.2.1,((st,(md,())),(Ip st md j,()))))))
    (fun o => o = .exit (Sum.inl (false,((p.2.1.length:Int),((p.2.1.length:Int),(p.2.1,((st,(md,())),(Ip st md p.2.1.length,()))))))))
    (fun i s hi hI => by
      subst hI
      unfold Fj
      by_cases h:i < p.2.1.length
      · obtain ⟨x,m,h1,h2,h3,h4,h5,h6⟩:=sch_at hP hS h
        have g1:getI st (i:Int) = some x:=by rw [Nu]; exact h1
        have g2:getI md (i:Int) = some m:=by rw [Nu]; exact h2
        have l1:=Fv i
        have l2:=Ck (n:=x) (by omega) (by omega)
        have l3:=Ck (n:=m) (by omega) (by omega)
        simp only [lt_yes h,if_true,getI_lt h,Ad,idxN h (by omega:p.2.1.length <= 1099511627776) (Nat.le_refl _),g1,g2,Ew,fmtV_in (n:=x) (by omega) (by omega),fmtV_in (n:=m) (by omega) (by omega),(hP.a i h).name]
        rw [ad8 (by simp; omega)]
        simp only [Ad]
        rw [ad8 (by simp; omega)]
        simp only [Ad]
        rw [ad8 (by simp; omega)]
        simp only [Ad]
        rw [ad8 (by simp; omega)]
        simp only [Ad]
        rw [add_ll (by rw [Ko]; simp; omega)]
        refine ⟨_,rfl,h,?_⟩
        rw [Y1]
        have e:((genName i ++ [64] ++ Lib.itoa x ++ [47]) ++ Lib.itoa m) = schWord st md i:=by
          unfold schWord
          rw [h1,h2]
          simp
        rw [e]
      · obtain rfl:i = p.2.1.length:=by omega
        simp only [lt_no,Bool.false_eq_true,if_false]
        exact ⟨_,rfl,rfl⟩) (s:=(0,((p.2.1.length:Int),(p.2.1,((st,(md,())),([],())))))) rfl (by unfold big; omega)
  have hj:=Q5 (Ip st md p.2.1.length) [32] () (by rw [Ko]; omega) (fun x hx => by
    obtain ⟨i,hi,rfl⟩:=List.mem_map.1 hx
    have:=Wr hP hS (i:=i) (by simpa using hi)
    omega) (by simp)
  unfold Cv
  simp only [Ud _ _ _ sm,hf,Ad,A9,Bool.false_eq_true,if_false,lenI_eq,ho,hj]
  rfl
theorem Aer (hP:GenP 3 p) {i:Nat} (hi:i < p.2.1.length):(32:UInt8) ∉ schWord st md i:=by
  unfold schWord
  simp [gen_no,itoa_no (b:=32) (by decide)]
theorem Ag6 {i:Nat}:(64:UInt8) ∉ genName i:=by
  match i with
  | 0 | 1 | 2 | 3 | 4 | n + 5 => simp [genName]
theorem Aga {n:Int}:(47:UInt8) ∉ Lib.itoa n:=fun h => by
  have hd:∀ u,(47:UInt8) ∉ Lib.decDigits u:=fun u h => by
    have:=(Nr u).1 _ h
    unfold isDig at this
    simp at this
  unfold Lib.itoa at h
  split at h
  · rcases List.mem_cons.1 h with h | h
    · cases h
    · exact hd _ h
  · exact hd _ h
theorem V7 (hP:GenP 3 p) (hS:GenS p.2.1 p.2.1.length st md) (u:Unit):Ey (p,(schText st md p.2.1.length,u)) () = some (((st,(md,())),(true,())),()):=by
  have hal:=hP.al
  have hF:=fun u => P9 hP hS u
  have htl:=Ab1 hP hS
  have hsp:=L9 (schText st md p.2.1.length) 32 () (by omega)
  rw [show splR 32 (schText st md p.2.1.length) = Ip st md p.2.1.length from ?_] at hsp
  · generalize schText st md p.2.1.length = tx at *
    obtain ⟨o,ho,rfl⟩:=A5 (A:=E4) (F:=Gi) p.2.1.length
      (fun j t => t = ((j:Int),((p.2.1.length:Int),(Ip st md p.2.1.length,(p,(tx,((st.take j,(md.take j,())),(([],([],())),()))))))))
      (fun o => o = .exit (Sum.inl (false,((p.2.1.length:Int),((p.2.1.length:Int),(Ip st md p.2.1.length,(p,(tx,((st,(md,())),(([],([],())),()))))))))))
      (fun i s hi hI => by
        subst hI
        unfold Gi
        by_cases h:i < p.2.1.length
        · obtain ⟨x,m,h1,h2,h3,h4,h5,h6⟩:=sch_at hP hS h
          have l2:=Ck (n:=x) (by omega) (by omega)
          have l3:=Ck (n:=m) (by omega) (by omega)
          have l1:=Fv i
          have gw:getI (Ip st md p.2.1.length) (i:Int) = some (genName i ++ 64 :: (Lib.itoa x ++ 47 :: Lib.itoa m)):=by
            rw [getI_lt (by rw [Ko]; exact h),Ab9 h]
            unfold schWord
            rw [h1,h2]
            rfl
          have c1:=Cut_eq (w:=genName i) (r:=Lib.itoa x ++ 47 :: Lib.itoa m) (c:=64) Ag6 (by simp; omega) ()
          have c2:=Cut_eq (w:=Lib.itoa x) (r:=Lib.itoa m) (c:=47) Aga (by omega) ()
          have p1:=Dp (Lib.itoa x) () (by omega)
          have p2:=Dp (Lib.itoa m) () (by omega)
          rw [pI_itoa (by omega) (by omega)] at p1 p2
          have t1:st.take (i + 1) = st.take i ++ [x]:=by rw [List.take_add_one,h1]; rfl
          have t2:md.take (i + 1) = md.take i ++ [m]:=by rw [List.take_add_one,h2]; rfl
          have a1:addI (st.take i) [x] = some (st.take (i + 1)):=by rw [t1]; exact addI_ok (by rw [room_eq]; have:=List.length_take_le i st; simp; omega)
          have a2:addI (md.take i) [m] = some (md.take (i + 1)):=by rw [t2]; exact addI_ok (by rw [room_eq]; have:=List.length_take_le i md; simp; omega)
          simp only [lt_yes h,if_true,gw,Ad,c1,c2,p1,p2,A9,Bool.false_eq_true,if_false,a1,a2,idxN h (by omega:p.2.1.length <= 1099511627776) (Nat.le_refl _)]
          exact ⟨_,rfl,h,rfl⟩
        · obtain rfl:i = p.2.1.length:=by omega
          simp only [lt_no,Bool.false_eq_true,if_false]
          refine ⟨_,rfl,?_⟩
          rw [List.take_of_length_le (by rw [hS.s1]; exact Nat.le_refl _),List.take_of_length_le (by rw [hS.m1]; exact Nat.le_refl _)]) (s:=(0,((p.2.1.length:Int),(Ip st md p.2.1.length,(p,(tx,(([],([],())),(([],([],())),())))))))) (by simp) (by unfold big; omega)
    unfold Ey
    simp only [hsp,Ad,lenI_eq,Ko,ho,hF,Re,A9,Bool.false_eq_true,if_false]
  · unfold schText
    refine Oa (fun e => ?_) fun w hw => ?_
    · have:=congrArg List.length e
      rw [Ko] at this
      change p.2.1.length = 0 at this
      omega
    · obtain ⟨i,hi,rfl⟩:=List.mem_map.1 hw
      exact Aer hP (by simpa using hi)
end
theorem Vo {p:Aa} {st md:List Int} (hP:GenP 3 p) (hS:GenS p.2.1 p.2.1.length st md) (u:Unit):E7 ((st,(md,())),((st,(md,())),u)) () = some (true,()):=by
  have hal:=hP.al
  unfold E7
  simp only [Rb st () (by rw [hS.s1]; omega),Rb md () (by rw [hS.m1]; omega),Ad,if_true]
end Go.Proofs.YtbkefganebmlnaaGreatDoor
