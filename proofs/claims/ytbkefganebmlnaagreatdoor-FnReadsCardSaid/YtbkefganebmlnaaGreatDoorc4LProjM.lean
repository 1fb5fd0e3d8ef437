/-
  Plain laws: numbers in a row, lists that hold a number, sets, domains (several small texts in one). Condition: no list is longer than 2 to the 40.
-/
import Derived.Test.YtbkefganebmlnaaGreatDoorN33
import Derived.Test.YtbkefganebmlnaaGreatDoorc4W
import Derived.Test.YtbkefganebmlnaaGreatDoorN37
import Derived.Test.YtbkefganebmlnaaGreatDoorN40
import Derived.Lib.AtoiAllCases
namespace Go.Proofs.YtbkefganebmlnaaGreatDoor
open Go.Abs
set_option linter.unusedVariables false
set_option linter.unusedSimpArgs false
theorem Cy (x lo hi:Int) (u:Unit):Ap (x,lo,hi,u) () = some (inB x lo hi,()):=by
  unfold Ap inB
  generalize leZ lo x = p
  cases p <;> rfl
theorem Ss (x:Int) (u:Unit):Ef (x,u) () = some (inB x 0 60,()):=by
  unfold Ef
  simp only [Cy,Ad]
theorem Wm (x:Int) (u:Unit):Hg (x,u) () = some (inB x 0 20,()):=by
  unfold Hg
  simp only [Cy,Ad]
def stepI (l:List D_Step) (i:Nat):Bool:=match l[i]? with
  | some s => inB s.1 0 60 && inB s.2.1 0 20 && (match i with | 0 => true | j + 1 => match l[j]? with | some r => notB (leZ s.1 r.1) | none => true)
  | none => true
def firstB (l:List D_Step):Bool:=match l[0]? with | some s => eqZ s.1 0 | none => true
def stepsB (l:List D_Step):Bool:=((List.range l.length).all (stepI l) && firstB l) && inB l.length 1 8
theorem Ql (l:List D_Step) (u:Unit) (hl:l.length <= 1099511627776):Ge (l,u) () = some (stepsB l,()):=by
  unfold Ge stepsB
  simp only [lenI_eq]
  rw [allIS (F:=Jq) (fun i => ((i:Int),(l.length:Int),l,l,())) (0,(l.length:Int),l,l,()) l.length (fun i => stepI l i && onFirst (firstB l) i) (Sum.inl (false,(l.length:Int),(l.length:Int),l,l,())) (false,()) rfl hl
    (fun i hi => by
      unfold Jq stepI onFirst
      simp only [lt_yes hi,if_true,getI_lt hi,Ad,Ss,Wm,idxN hi hl (Nat.le_refl _),List.getElem?_eq_getElem hi]
      generalize inB _ 0 60 = p
      generalize inB _ 0 20 = q
      cases i with
      | zero =>
        have e:ltZ 0 ((0:Nat):Int) = false:=rfl
        have e':eqZ ((0:Nat):Int) 0 = true:=rfl
        have ef:firstB l = eqZ l[0].1 0:=by unfold firstB; rw [List.getElem?_eq_getElem hi]
        simp only [e,e',ef]
        generalize eqZ _ 0 = r
        cases p <;> cases q <;> cases r <;> rfl
      | succ j =>
        have e:ltZ 0 ((j + 1:Nat):Int) = true:=by rw [ltZ_iff]; omega
        have e':eqZ ((j + 1:Nat):Int) 0 = false:=eqZ_ne (by omega)
        have hj:j < l.length:=by omega
        simp only [e,e',if_true,Aha j (by omega),getI_lt hj,Ad,List.getElem?_eq_getElem hj]
        generalize leZ _ _ = r
        cases p <;> cases q <;> cases r <;> simp [-Int.natCast_add,onFirst,notB,idxN hi hl (Nat.le_refl _)])
    (by unfold Jq; simp only [lt_no,Bool.false_eq_true,if_false])]
  rw [Ae5 (fun h => by
    have:l = []:=List.length_eq_zero_iff.1 h
    rw [this]; rfl)]
  simp only [Cy]
  generalize ((List.range l.length).all (stepI l) && firstB l) = p
  cases p
  · simp
  · simp
theorem Sr (l:List Int) (n:Int) (u:Unit) (hl:l.length <= 1099511627776):E2 (l,n,u) () = some ((l.all fun x => inB x 0 20) && eqZ l.length n,()):=by
  unfold E2
  simp only [lenI_eq]
  rw [allS (F:=Gt) (fun i => ((i:Int),(l.length:Int),l,l,n,())) (0,(l.length:Int),l,l,n,()) l (fun x => inB x 0 20) (Sum.inl (false,(l.length:Int),(l.length:Int),l,l,n,())) (false,()) rfl hl
    (fun i hi => by
      unfold Gt
      simp only [lt_yes hi,if_true,getI_lt hi,Ad,Wm,idxN hi hl (Nat.le_refl _)]
      generalize inB _ 0 20 = p
      cases p <;> rfl)
    (by unfold Gt; simp only [lt_no,Bool.false_eq_true,if_false])]
  generalize (l.all fun x => inB x 0 20) = p
  cases p <;> rfl
def modeB (m:D_Mode) (r s:Int):Bool:=inB m.1 1 12 && ((m.2.1.all fun x => inB x 0 20) && eqZ m.2.1.length r) && ((m.2.2.1.all fun x => inB x 0 20) && eqZ m.2.2.1.length s)
theorem Acd (m:D_Mode) (r s:Int) (u:Unit) (h:Sm_Mode 1099511627776 m):L2 (m,r,s,u) () = some (modeB m r s,()):=by
  unfold L2 modeB
  simp only [Cy,Sr _ _ _ h.2.1.1,Sr _ _ _ h.2.2.1.1,Ad]
  generalize inB _ 1 12 = p
  generalize ((m.2.1.all fun x => inB x 0 20) && eqZ m.2.1.length r) = q
  generalize ((m.2.2.1.all fun x => inB x 0 20) && eqZ m.2.2.1.length s) = t
  cases p <;> cases q <;> cases t <;> rfl
def nameI (s:List UInt8) (i:Nat):Bool:=match s[i]? with
  | some b => !(!(leZ 97 (b.toNat:Int) && leZ (b.toNat:Int) 122) && (eqZ i 0 || ltZ (b.toNat:Int) 48 || ltZ 57 (b.toNat:Int)))
  | none => true
def nameB (s:List UInt8):Bool:=(List.range s.length).all (nameI s) && inB s.length 1 8
theorem Ab3 (s:List UInt8) (u:Unit) (hl:s.length <= 1099511627776):Ly (s,u) () = some (nameB s,()):=by
  unfold Ly nameB
  simp only [lenI_eq]
  rw [allIS (F:=Kc) (fun i => ((i:Int),(s.length:Int),s,())) (0,(s.length:Int),s,()) s.length (nameI s) (Sum.inl (false,(s.length:Int),(s.length:Int),s,())) (false,()) rfl hl
    (fun i hi => by
      unfold Kc nameI
      have eb:=Sq hi
      rw [List.getElem?_eq_getElem hi]
      revert eb
      show byteAt s (i:Int) = some ((s[i].toNat:Nat):Int) -> _ = some (if (!(!(leZ 97 ((s[i].toNat:Nat):Int) && leZ ((s[i].toNat:Nat):Int) 122) && (eqZ i 0 || ltZ ((s[i].toNat:Nat):Int) 48 || ltZ 57 ((s[i].toNat:Nat):Int)))) = true then _ else _)
      generalize ((s[i].toNat:Nat):Int) = b
      intro eb
      simp only [lenI_eq,lt_yes hi,if_true,eb,Ad]
      cases hp:leZ 97 b <;> cases hq:leZ b 122 <;> cases hr:eqZ (i:Int) 0 <;> cases ht:ltZ b 48 <;> cases hv:ltZ 57 b <;> simp [-Int.natCast_add,notB,eb,hp,hq,hr,ht,hv,idxN hi hl (Nat.le_refl _)])
    (by unfold Kc; simp only [lenI_eq,lt_no,Bool.false_eq_true,if_false])]
  simp only [Cy]
  generalize (List.range s.length).all (nameI s) = p
  cases p <;> simp
def actB (a:Ab) (r s:Int):Bool:=(a.2.2.1.all fun m => modeB m r s) && (nameB a.1 && inB a.2.1 0 3 && inB a.2.2.1.length 1 3)
theorem Vp (a:Ab) (r s:Int) (u:Unit) (h:Oc 1099511627776 a):Ht (a,r,s,u) () = some (actB a r s,()):=by
  have hl:=h.2.2.1.1
  unfold Ht actB
  simp only [lenI_eq]
  rw [allS (F:=Gk) (fun i => ((i:Int),(a.2.2.1.length:Int),a.2.2.1,r,s,a,())) (0,(a.2.2.1.length:Int),a.2.2.1,r,s,a,()) a.2.2.1 (fun m => modeB m r s) (Sum.inl (false,(a.2.2.1.length:Int),(a.2.2.1.length:Int),a.2.2.1,r,s,a,())) (false,()) rfl hl
    (fun i hi => by
      unfold Gk
      simp only [lt_yes hi,if_true,getI_lt hi,Ad,Acd _ _ _ _ (h.2.2.1.2 _ (List.getElem_mem hi)),idxN hi hl (Nat.le_refl _)]
      generalize modeB _ _ _ = p
      cases p <;> rfl)
    (by unfold Gk; simp only [lt_no,Bool.false_eq_true,if_false])]
  cases hp:(a.2.2.1.all fun m => modeB m r s) <;> cases hq:nameB a.1 <;> cases ht:inB a.2.1 0 3 <;> cases hv:inB (a.2.2.1.length:Int) 1 3 <;> simp [Ab3 _ _ h.1,Cy,hq,ht,hv]
theorem Y4 (l:List Ab) (f:(Ab × Unit) -> Option Bool) (q:Ab -> Bool) (u:Unit) (hl:l.length <= 1099511627776) (hf:∀ a ∈ l,f (a,()) = some (q a)):A4 (l,f,u) () = some (idxOf q l,()):=by
  unfold A4 idxOf
  simp only [lenI_eq]
  rw [findS (F:=A6) (fun i => ((i:Int),(l.length:Int),f,l,())) (0,(l.length:Int),f,l,()) l q (Sum.inl (false,(l.length:Int),(l.length:Int),f,l,())) (fun i => ((i:Int),())) rfl hl
    (fun i hi => by
      unfold A6
      simp only [lt_yes hi,if_true,getI_lt hi,Ad,hf _ (List.getElem_mem hi),idxN hi hl (Nat.le_refl _)]
      generalize q _ = r
      cases r <;> rfl)
    (by unfold A6; simp only [lt_no,Bool.false_eq_true,if_false])]
  cases l.findIdx? q <;> rfl
theorem Gl (p:Aa) (s:List UInt8) (u:Unit) (hl:p.2.1.length <= 1099511627776):Ax (p,s,u) () = some (idxOf (fun a => eqS a.1 s) p.2.1,()):=by
  unfold Ax
  have e:=Y4 p.2.1 (fun v0 => (Option.bind (Fc v0 (s,())) fun v1 => (some v1.1))) (fun a => eqS a.1 s) () hl (fun a _ => rfl)
  simp only [e,Ad]
theorem Xp (l:List D_Link) (f:(D_Link × Unit) -> Option Bool) (q:D_Link -> Bool) (u:Unit) (hl:l.length <= 1099511627776) (hf:∀ a ∈ l,f (a,()) = some (q a)):Bg (l,f,u) () = some (idxOf q l,()):=by
  unfold Bg idxOf
  simp only [lenI_eq]
  rw [findS (F:=Bj) (fun i => ((i:Int),(l.length:Int),f,l,())) (0,(l.length:Int),f,l,()) l q (Sum.inl (false,(l.length:Int),(l.length:Int),f,l,())) (fun i => ((i:Int),())) rfl hl
    (fun i hi => by
      unfold Bj
      simp only [lt_yes hi,if_true,getI_lt hi,Ad,hf _ (List.getElem_mem hi),idxN hi hl (Nat.le_refl _)]
      generalize q _ = r
      cases r <;> rfl)
    (by unfold Bj; simp only [lt_no,Bool.false_eq_true,if_false])]
  cases l.findIdx? q <;> rfl
def rowB (row:List Int):Bool:=eqZ row.length 4 && row.all fun n => inB n 0 12
def resrB (r:Af):Bool:=r.2.1.all rowB && (stepsB r.1 && (eqZ r.2.1.length 0 || eqZ r.2.1.length 4))
theorem Wf (r:Af) (u:Unit) (h:Ob 1099511627776 r):H2 (r,u) () = some (resrB r,()):=by
  have hl:=h.2.1.1
  unfold H2 resrB
  simp only [lenI_eq]
  rw [allS (F:=Gn) (fun i => ((i:Int),(r.2.1.length:Int),r.2.1,r,())) (0,(r.2.1.length:Int),r.2.1,r,()) r.2.1 rowB (Sum.inl (false,(r.2.1.length:Int),(r.2.1.length:Int),r.2.1,r,())) (false,()) rfl hl
    (fun i hi => by
      have hr:=(h.2.1.2 _ (List.getElem_mem hi)).1
      unfold Gn rowB
      simp only [lt_yes hi,if_true,getI_lt hi,Ad]
      have hq0:eqZ (lenI r.2.1[i]) 4 = eqZ (r.2.1[i].length:Int) 4:=rfl
      rw [allS (F:=Gq) (fun j => ((j:Int),(r.2.1[i].length:Int),r.2.1[i],(i:Int),(r.2.1.length:Int),r.2.1,r,())) (0,lenI r.2.1[i],r.2.1[i],(i:Int),(r.2.1.length:Int),r.2.1,r,()) r.2.1[i] (fun n => inB n 0 12) (Sum.inl (false,(r.2.1[i].length:Int),(r.2.1[i].length:Int),r.2.1[i],(i:Int),(r.2.1.length:Int),r.2.1,r,())) (false,()) rfl hr
        (fun j hj => by
          unfold Gq
          simp only [lt_yes hj,if_true,getI_lt hj,Ad,Cy,idxN hj hr (Nat.le_refl _)]
          generalize inB _ 0 12 = p
          cases p <;> rfl)
        (by unfold Gq; simp only [lt_no,Bool.false_eq_true,if_false])]
      cases hp:(r.2.1[i].all fun n => inB n 0 12) <;> cases hq:eqZ (r.2.1[i].length:Int) 4 <;> simp [-Int.natCast_add,notB,hq0,hq,idxN hi hl (Nat.le_refl _)])
    (by unfold Gn; simp only [lt_no,Bool.false_eq_true,if_false])]
  cases hp:r.2.1.all rowB <;> cases hq:stepsB r.1 <;> cases ht:eqZ (r.2.1.length:Int) 0 <;> cases hv:eqZ (r.2.1.length:Int) 4 <;> simp [Ql _ _ h.1.1,lenI_eq,hq,ht,hv]
open Go.Abs
set_option linter.unusedVariables false
set_option linter.unusedSimpArgs false
def actI (p:Aa) (i:Nat):Bool:=match p.2.1[i]? with
  | some a => actB a (lenI p.2.2.2.1) (lenI p.2.2.2.2.1) && eqZ (idxOf (fun b => eqS b.1 a.1) p.2.1) i
  | none => true
def linkB (n:Int) (k:D_Link):Bool:=inB k.1 0 (subZ .i64 n 1) && inB k.2.1 0 (subZ .i64 n 1) && notB (eqZ k.1 k.2.1) && inB k.2.2.2.1 (-60) 60
def projB (p:Aa):Bool:=(inB p.1 1 60 && inB (lenI p.2.1) 1 6 && notB (ltZ 3 (lenI p.2.2.2.1)) && notB (ltZ 2 (lenI p.2.2.2.2.1)) && notB (ltZ 12 (lenI p.2.2.1))) &&
  (List.range p.2.1.length).all (actI p) && p.2.2.2.1.all resrB && (p.2.2.2.2.1.all fun n => inB n 0 100) && p.2.2.1.all (linkB (lenI p.2.1))
theorem Ng (p:Aa) (a:Int) (u:Unit):Au (p,a,u) () = some (inB a 0 (subZ .i64 (lenI p.2.1) 1),()):=by
  unfold Au
  simp only [Cy,Ad]
theorem Afx (p:Aa) (k:D_Link) (u:Unit):Eg (p,k,u) () = some (linkB (lenI p.2.1) k,()):=by
  unfold Eg linkB
  simp only [Ng,Cy,Ad]
  generalize lenI p.2.1 = n
  cases h1:inB k.1 0 (subZ .i64 n 1) <;> cases h2:inB k.2.1 0 (subZ .i64 n 1) <;> cases h3:eqZ k.1 k.2.1 <;> cases h4:inB k.2.2.2.1 (-60) 60 <;> simp [notB]
theorem Adu {E:Type} (q:E -> Bool) (l:List E):notB (l.any fun k => notB (q k)) = l.all q:=by
  induction l with
  | nil => rfl
  | cons x l ih =>
    simp only [List.any_cons,List.all_cons,<- ih]
    cases q x <;> simp [notB]
theorem I3 (p:Aa) (u:Unit) (h:L6 1099511627776 p):B6 (p,u) () = some (projB p,()):=by
  obtain ⟨-,⟨ha,hA⟩,⟨hk,-⟩,⟨hr,hR⟩,⟨hs,-⟩,-⟩:=h
  have l0:=fun A:Type => allIS (A:=A) (F:=Hp) (fun i => ((i:Int),lenI p.2.1,p.2.1,p,())) (0,lenI p.2.1,p.2.1,p,()) p.2.1.length (actI p) (Sum.inl (false,lenI p.2.1,lenI p.2.1,p.2.1,p,())) (false,()) rfl ha
    (fun i hi => by
      unfold Hp actI
      simp only [lenI_eq,lt_yes hi,if_true,getI_lt hi,Ad,List.getElem?_eq_getElem hi]
      simp only [Vp _ _ _ _ (hA _ (List.getElem_mem hi)),Ad,Gl _ _ _ ha,idxN hi ha (Nat.le_refl _)]
      cases hp:actB p.2.1[i] (p.2.2.2.1.length:Int) (p.2.2.2.2.1.length:Int) <;> cases hq:eqZ (idxOf (fun b => eqS b.1 p.2.1[i].1) p.2.1) (i:Int) <;> simp [-Int.natCast_add,notB,hq,idxN hi ha (Nat.le_refl _)])
    (by unfold Hp; simp only [lenI_eq,lt_no,Bool.false_eq_true,if_false])
  have l1:=fun A:Type => allS (A:=A) (F:=Ho) (fun i => ((i:Int),lenI p.2.2.2.1,p.2.2.2.1,p,())) (0,lenI p.2.2.2.1,p.2.2.2.1,p,()) p.2.2.2.1 resrB (Sum.inl (false,lenI p.2.2.2.1,lenI p.2.2.2.1,p.2.2.2.1,p,())) (false,()) rfl hr
    (fun i hi => by
      unfold Ho
      simp only [lenI_eq,lt_yes hi,if_true,getI_lt hi,Ad,Wf _ _ (hR _ (List.getElem_mem hi)),idxN hi hr (Nat.le_refl _)]
      cases hp:resrB p.2.2.2.1[i] <;> simp [-Int.natCast_add,notB])
    (by unfold Ho; simp only [lenI_eq,lt_no,Bool.false_eq_true,if_false])
  have l2:=fun A:Type => allS (A:=A) (F:=Hn) (fun i => ((i:Int),lenI p.2.2.2.2.1,p.2.2.2.2.1,p,())) (0,lenI p.2.2.2.2.1,p.2.2.2.2.1,p,()) p.2.2.2.2.1 (fun n => inB n 0 100) (Sum.inl (false,lenI p.2.2.2.2.1,lenI p.2.2.2.2.1,p.2.2.2.2.1,p,())) (false,()) rfl hs
    (fun i hi => by
      unfold Hn
      simp only [lenI_eq,lt_yes hi,if_true,getI_lt hi,Ad,Cy,idxN hi hs (Nat.le_refl _)]
      cases hp:inB p.2.2.2.2.1[i] 0 100 <;> simp [-Int.natCast_add,notB])
    (by unfold Hn; simp only [lenI_eq,lt_no,Bool.false_eq_true,if_false])
  have l3:=Xp p.2.2.1 (fun v35 => (Option.bind (Gz v35 (p,())) fun v36 => (some v36.1))) (fun k => notB (linkB (lenI p.2.1) k)) () hk (fun a _ => by
    unfold Gz
    simp only [Afx,Ad])
  unfold B6 projB
  simp only [Cy,Ad]
  cases h1:inB p.1 1 60 with
  | false => simp [notB]
  | true =>
  cases h2:inB (lenI p.2.1) 1 6 with
  | false => simp [notB,Cy,h2]
  | true =>
  cases h3:ltZ 3 (lenI p.2.2.2.1) with
  | true => simp [notB,Cy,h2,h3]
  | false =>
  cases h4:ltZ 2 (lenI p.2.2.2.2.1) with
  | true => simp [notB,Cy,h2,h3,h4]
  | false =>
  cases h5:ltZ 12 (lenI p.2.2.1) with
  | true => simp [notB,Cy,h2,h3,h4,h5]
  | false =>
  simp only [A9,X7,Bool.false_eq_true,if_false,h2,h3,h4,h5,Ad,l0]
  cases k0:(List.range p.2.1.length).all (actI p) with
  | false => simp
  | true =>
  simp only [if_true,Ad,l1]
  cases k1:p.2.2.2.1.all resrB with
  | false => simp
  | true =>
  simp only [if_true,Ad,l2]
  cases k2:(p.2.2.2.2.1.all fun n => inB n 0 100) with
  | false => simp
  | true =>
  simp only [if_true,Ad]
  unfold Bk
  simp only [l3,Ad,Afi,Adu,Bool.true_and,Bool.and_true,X7]
open Go.Abs
set_option linter.unusedVariables false
set_option linter.unusedSimpArgs false
theorem Aej (x lo hi:Int) (u:Unit):Ap (x,lo,hi,u) () = some (inB x lo hi,()):=by
  unfold Ap inB
  rcases tf (leZ lo x) with h | h <;> simp [h]
/-- a number as text -/
def fmtV (n:Int):List UInt8:=if inB n (-100000) 100000 = true then Lib.itoa n else []
theorem Aat {u:Nat} (h:u < 10):Lib.decDigits u = [UInt8.ofNat (48 + u)]:=by rw [Lib.decDigits,dif_pos h]
theorem dec_big {u:Nat} (h:¬ u < 10):Lib.decDigits u = Lib.decDigits (u / 10) ++ [UInt8.ofNat (48 + u % 10)]:=by rw [Lib.decDigits,dif_neg h]
theorem Xq:∀ (k u:Nat),u < 10 ^ (k + 1) -> (Lib.decDigits u).length <= k + 1
  | 0,u,h => by rw [Aat (by simpa using h)]; simp
  | k + 1,u,h => by
    by_cases h1:u < 10
    · rw [Aat h1]; simp
    · rw [dec_big h1]
      have:=Xq k (u / 10) (by rw [Nat.pow_succ] at h; omega)
      simp only [List.length_append,List.length_singleton]
      omega
theorem Adj {u:Nat} (h:u <= 100000):(Lib.decDigits u).length <= 6:=Xq 5 u (by omega)
theorem Ahx (n:Int):(fmtV n).length <= 7:=by
  unfold fmtV
  split
  · rename_i h
    have h:=inB_iff.1 h
    unfold Lib.itoa
    split
    · have:=Adj (u:=n.natAbs) (by omega)
      simp only [List.length_cons]
      omega
    · have:=Adj (u:=n.toNat) (by omega)
      omega
  · simp
theorem Ew (n:Int) (u:Unit):Aq (n,u) () = some (fmtV n,()):=by
  unfold Aq fmtV
  simp only [Aej,Ad]
  rcases tf (inB n (-100000) 100000) with h | h
  · simp [h,notB]
  have hb:=inB_iff.1 h
  have hi:∀ u,strconv_Itoa (n,u) () = some (Lib.itoa n,()):=fun u => by
    unfold strconv_Itoa itoaF
    exact if_pos ⟨by show -9223372036854775808 <= n; omega,by show n <= 9223372036854775807; omega⟩
  simp only [h,A9,Bool.false_eq_true,if_false,if_true,hi,Ad]
open Go.Abs
set_option linter.unusedVariables false
set_option linter.unusedSimpArgs false
theorem Q4 {sep:List UInt8} {B:Nat}:∀ {xs:List (List UInt8)},(∀ x ∈ xs,x.length + sep.length <= B) -> (Lib.joinTail sep xs).length <= xs.length * B
  | [],_ => by simp [Lib.joinTail]
  | x :: xs,h => by
    have ih:=Q4 (xs:=xs) fun x hx => h x (by simp [hx])
    have h0:=h x (by simp)
    have e:Lib.joinTail sep (x :: xs) = sep ++ x ++ Lib.joinTail sep xs:=by simp [Lib.joinTail]
    rw [e]
    simp only [List.length_append,List.length_cons,Nat.succ_mul]
    omega
theorem Ve {sep:List UInt8} {B:Nat} {xs:List (List UInt8)} (h:∀ x ∈ xs,x.length + sep.length <= B):(Lib.join xs sep).length <= xs.length * B:=by
  cases xs with
  | nil => simp [Lib.join_nil]
  | cons x xs =>
    rw [Lib.join_cons]
    have h1:=Q4 (xs:=xs) fun x hx => h x (by simp [hx])
    have h0:=h x (by simp)
    simp only [List.length_append,List.length_cons,Nat.succ_mul]
    omega
theorem Q5 (xs:List (List UInt8)) (sep:List UInt8) (u:Unit) (hn:xs.length <= 4096) (hx:∀ x ∈ xs,x.length <= 2048) (hs:sep.length <= 2048):strings_Join (xs,sep,u) () = some (Lib.join xs sep,()):=by
  have hl:=Ve (B:=4096) (xs:=xs) (sep:=sep) fun x h => by have:=hx x h; omega
  unfold strings_Join joinF
  exact if_pos ⟨by show xs.length <= _; omega,by show (Lib.join xs sep).length <= _; omega⟩
open Go.Abs
set_option linter.unusedVariables false
set_option linter.unusedSimpArgs false
/-! digits -/
def isDig (c:UInt8):Prop:=48 <= c.toNat /\ c.toNat <= 57
def digV (acc:Nat) (l:List UInt8):Nat:=l.foldl (fun a c => a * 10 + (c.toNat - 48)) acc
theorem Ac7 {d:Nat} (h:d < 10):(UInt8.ofNat (48 + d)).toNat = 48 + d:=by
  rw [UInt8.toNat_ofNat']
  omega
theorem Nr:∀ u:Nat,(∀ c ∈ Lib.decDigits u,isDig c) /\ digV 0 (Lib.decDigits u) = u:=by
  intro u
  induction u using Nat.strongRecOn with
  | ind u ih =>
    by_cases h:u < 10
    · rw [Lib.decDigits,dif_pos h]
      have hb:=Ac7 h
      refine ⟨fun c hc => ?_,?_⟩
      · rw [List.mem_singleton.1 hc]
        unfold isDig
        omega
      · simp only [digV,List.foldl_cons,List.foldl_nil,hb]
        omega
    · obtain ⟨h1,h2⟩:=ih (u / 10) (by omega)
      rw [Lib.decDigits,dif_neg h]
      have hb:=Ac7 (Nat.mod_lt u (show 0 < 10 by omega))
      refine ⟨fun c hc => ?_,?_⟩
      · rcases List.mem_append.1 hc with hc | hc
        · exact h1 c hc
        · rw [List.mem_singleton.1 hc]
          unfold isDig
          omega
      · unfold digV at h2 ⊢
        rw [List.foldl_append,h2]
        simp only [List.foldl_cons,List.foldl_nil,hb]
        omega
theorem digs_ne (u:Nat):Lib.decDigits u ≠ []:=by
  by_cases h:u < 10
  · rw [Lib.decDigits,dif_pos h]; simp
  · rw [Lib.decDigits,dif_neg h]; simp
theorem X4:∀ (l:List UInt8) (acc:Nat),(∀ c ∈ l,isDig c) -> (acc + 1) * 10 ^ l.length <= 1000000000 -> Lib.parseUint10 acc l = .ok (digV acc l)
  | [],acc,_,_ => rfl
  | c :: l,acc,h,hb => by
    have hc:=h c (by simp)
    unfold isDig at hc
    have hp:1 <= 10 ^ l.length:=Nat.one_le_pow _ _ (by omega)
    have hb':(acc + 1) * 10 * 10 ^ l.length <= 1000000000:=by
      have e:10 ^ (c :: l).length = 10 * 10 ^ l.length:=by rw [List.length_cons,Nat.pow_succ,Nat.mul_comm]
      rw [e,<- Nat.mul_assoc] at hb
      exact hb
    have h1:(acc + 1) * 10 <= 1000000000:=Nat.le_trans (Nat.le_mul_of_pos_right _ hp) hb'
    have h2:(acc * 10 + (c.toNat - 48) + 1) * 10 ^ l.length <= 1000000000:=Nat.le_trans (Nat.mul_le_mul_right _ (by omega)) hb'
    unfold Lib.parseUint10
    rw [if_pos hc,if_neg (by omega),if_neg (by omega),X4 l _ (fun x hx => h x (by simp [hx])) h2]
    rfl
theorem Acy:∀ (k u:Nat),u < 10 ^ (k + 1) -> (Lib.decDigits u).length <= k + 1
  | 0,u,h => by
    rw [Lib.decDigits,dif_pos (by simpa using h)]; simp
  | k + 1,u,h => by
    by_cases h1:u < 10
    · rw [Lib.decDigits,dif_pos h1]; simp
    · rw [Lib.decDigits,dif_neg h1]
      have:=Acy k (u / 10) (by rw [Nat.pow_succ] at h; omega)
      simp only [List.length_append,List.length_singleton]
      omega
theorem Adc {u:Nat} (h:u <= 100000):Lib.parseMag (Lib.decDigits u) = .ok u:=by
  obtain ⟨h1,h2⟩:=Nr u
  have hl:=Acy 5 u (by omega)
  unfold Lib.parseMag
  rw [if_neg (digs_ne u),X4 _ 0 h1 ?_,h2]
  have:10 ^ (Lib.decDigits u).length <= 10 ^ 6:=Nat.pow_le_pow_right (by omega) hl
  omega
theorem Afq {n:Int} (h1:-100000 <= n) (h2:n <= 100000):Lib.atoiAll (Lib.itoa n) = .ok n:=by
  by_cases hn:n < 0
  · obtain ⟨m,rfl⟩:∃ m:Nat,n = -(m:Int):=⟨n.natAbs,by omega⟩
    have e:Lib.itoa (-(m:Int)) = 45 :: Lib.decDigits m:=by
      unfold Lib.itoa
      rw [if_pos hn]
      simp
    rw [e,Lib.atoiAll_minus,Adc (by omega)]
    unfold Lib.signed
    simp only
    rw [if_neg (by omega)]
  · obtain ⟨m,rfl⟩:∃ m:Nat,n = (m:Int):=⟨n.toNat,by omega⟩
    have e:Lib.itoa (m:Int) = Lib.decDigits m:=by
      unfold Lib.itoa
      rw [if_neg hn]
      simp
    have hm:=Adc (u:=m) (by omega)
    have hd:=(Nr m).1
    rw [e]
    cases hs:Lib.decDigits m with
    | nil => exact absurd hs (digs_ne m)
    | cons c r =>
      rw [hs] at hm hd
      have hc:=hd c (by simp)
      unfold isDig at hc
      rw [Lib.atoiAll_plain c r (by omega) (by omega),hm]
      unfold Lib.signless
      simp only
      rw [if_neg (by omega)]
/-- the number of a text that is a number's own -/
theorem pI_itoa {n:Int} (h1:-100000 <= n) (h2:n <= 100000):pI (Lib.itoa n) = (n,true):=by
  unfold pI
  rw [Afq h1 h2]
  simp only
  rw [if_pos ⟨h1,h2,trivial⟩]
theorem Ag2 (s:List UInt8):(pI s = (0,false) /\ ∀ n:Int,-100000 <= n -> n <= 100000 -> Lib.itoa n ≠ s) \/ ∃ n:Int,-100000 <= n /\ n <= 100000 /\ Lib.itoa n = s /\ pI s = (n,true):=by
  by_cases h:∃ n:Int,-100000 <= n /\ n <= 100000 /\ Lib.itoa n = s
  · obtain ⟨n,h1,h2,rfl⟩:=h
    exact .inr ⟨n,h1,h2,rfl,pI_itoa h1 h2⟩
  · refine .inl ⟨?_,fun n h1 h2 e => h ⟨n,h1,h2,e⟩⟩
    unfold pI
    split
    · rename_i n _
      rw [if_neg fun hh => h ⟨n,hh.1,hh.2.1,hh.2.2⟩]
    · rfl
/-! a text cut at a byte -/
def addH (p:List UInt8):List (List UInt8) -> List (List UInt8)
  | [] => [p]
  | w :: ws => (p ++ w) :: ws
/-- a text cut at each such byte -/
def splR (b:UInt8):List UInt8 -> List (List UInt8)
  | [] => [[]]
  | c :: s => if c = b then [] :: splR b s else addH [c] (splR b s)
theorem splR_ne (b:UInt8):∀ s,splR b s ≠ []
  | [] => by simp [splR]
  | c :: s => by
    unfold splR
    split
    · simp
    · cases splR b s <;> simp [addH]
theorem Ac3 (p q:List UInt8) (l:List (List UInt8)):addH p (addH q l) = addH (p ++ q) l:=by
  cases l <;> simp [addH]
theorem Zg {l:List (List UInt8)} (h:l ≠ []):addH [] l = l:=by
  cases l with
  | nil => exact absurd rfl h
  | cons w ws => rfl
theorem Wc {b:UInt8}:∀ {w:List UInt8} (s:List UInt8),b ∉ w -> splR b (w ++ s) = addH w (splR b s)
  | [],s,_ => (Zg (splR_ne b s)).symm
  | c :: w,s,h => by
    have hc:c ≠ b:=fun e => h (by simp [e])
    have e:splR b (c :: (w ++ s)) = if c = b then [] :: splR b (w ++ s) else addH [c] (splR b (w ++ s)):=rfl
    show splR b (c :: (w ++ s)) = _
    rw [e,if_neg hc,Wc s fun hm => h (by simp [hm]),Ac3]
    rfl
theorem Ahn {b:UInt8} {w:List UInt8} (s:List UInt8) (h:b ∉ w):splR b (w ++ b :: s) = w :: splR b s:=by
  rw [Wc _ h]
  show addH w (splR b (b :: s)) = _
  conv => lhs; unfold splR
  rw [if_pos rfl]
  simp [addH]
theorem Agm {b:UInt8} {w:List UInt8} (h:b ∉ w):splR b w = [w]:=by
  have:=Wc (b:=b) (w:=w) [] h
  rw [List.append_nil] at this
  rw [this]
  simp [splR,addH]
theorem Oa {b:UInt8}:∀ {ws:List (List UInt8)},ws ≠ [] -> (∀ w ∈ ws,b ∉ w) -> splR b (Lib.join ws [b]) = ws
  | [],h,_ => absurd rfl h
  | w :: ws,_,h => by
    rw [Lib.join_cons]
    have key:∀ (ws:List (List UInt8)) (w:List UInt8),b ∉ w -> (∀ x ∈ ws,b ∉ x) -> splR b (w ++ Lib.joinTail [b] ws) = w :: ws:=by
      intro ws
      induction ws with
      | nil =>
        intro w hw _
        have e:Lib.joinTail [b] [] = []:=rfl
        rw [e,List.append_nil,Agm hw]
      | cons x ws ih =>
        intro w hw hx
        have e:Lib.joinTail [b] (x :: ws) = b :: (x ++ Lib.joinTail [b] ws):=by simp [Lib.joinTail]
        rw [e,Ahn _ hw,ih x (hx x (by simp)) fun y hy => hx y (by simp [hy])]
    exact key ws w (h w (by simp)) fun x hx => h x (by simp [hx])
open Go.Abs
set_option linter.unusedVariables false
set_option linter.unusedSimpArgs false
theorem Ago:∃ n,big = n + 1 + 1:=⟨18446744073709551614,rfl⟩
theorem Agi {σ A B C:Type} {F:σ -> Option (Out σ B C)} {s s':σ} {b:B} (h:F s = some (.norm s')) (h':F s' = some (.exit b)):loopN (A:=A) big F s = some (.exit b):=by
  obtain ⟨n,hn⟩:=Ago
  rw [hn]
  simp only [loopN,h,h',Option.bind_some]
/-- one byte further -/
def splF (s:List UInt8) (b:UInt8) (i:Nat) (x:List (List UInt8) × Nat):List (List UInt8) × Nat:=match s[i]? with
  | some c => if c = b then (x.1 ++ [(s.take i).drop x.2],i + 1) else x
  | none => x
theorem Zn (s:List UInt8) (b:UInt8):∀ (k i:Nat) (x:List (List UInt8) × Nat),i + k = s.length -> x.2 <= i ->
    (foldN (splF s b) k i x).1 ++ [(s.take s.length).drop (foldN (splF s b) k i x).2] = x.1 ++ addH ((s.take i).drop x.2) (splR b (s.drop i))
  | 0,i,x,h,hx => by
    obtain rfl:i = s.length:=by omega
    simp [foldN,splR,addH]
  | k + 1,i,x,h,hx => by
    have hi:i < s.length:=by omega
    show (foldN (splF s b) k (i + 1) (splF s b i x)).1 ++ [(s.take s.length).drop (foldN (splF s b) k (i + 1) (splF s b i x)).2] = _
    have hd:s.drop i = s[i] :: s.drop (i + 1):=List.drop_eq_getElem_cons hi
    have hsp:splR b (s.drop i) = if s[i] = b then [] :: splR b (s.drop (i + 1)) else addH [s[i]] (splR b (s.drop (i + 1))):=by rw [hd]; rfl
    have hf:splF s b i x = if s[i] = b then (x.1 ++ [(s.take i).drop x.2],i + 1) else x:=by
      unfold splF
      rw [List.getElem?_eq_getElem hi]
    by_cases hc:s[i] = b
    · rw [if_pos hc] at hsp hf
      rw [hf,hsp,Zn s b k (i + 1) _ (by omega) (Nat.le_refl _)]
      have e:(s.take (i + 1)).drop (i + 1) = []:=List.drop_eq_nil_iff.2 (by rw [List.length_take]; omega)
      rw [e,Zg (splR_ne b _)]
      simp [addH]
    · rw [if_neg hc] at hsp hf
      rw [hf,hsp,Zn s b k (i + 1) _ (by omega) (by omega),Ac3]
      have e:(s.take (i + 1)).drop x.2 = (s.take i).drop x.2 ++ [s[i]]:=by
        rw [List.take_succ_eq_append_getElem hi,List.drop_append_of_le_length (by rw [List.length_take]; omega)]
      rw [e]
theorem spl_all (s:List UInt8) (b:UInt8):(foldN (splF s b) s.length 0 ([],0)).1 ++ [(s.take s.length).drop (foldN (splF s b) s.length 0 ([],0)).2] = splR b s:=by
  have:=Zn s b s.length 0 ([],0) (by omega) (Nat.le_refl _)
  rw [this]
  simp [Zg (splR_ne b s)]
theorem cut_to {s:List UInt8} {a i:Nat} (h1:a <= i) (h2:i <= s.length):cutI s (a:Int) (i:Int) = some ((s.take i).drop a):=by
  unfold cutI
  rw [if_pos (by omega)]
  simp
theorem idx_one (b:UInt8) (c:UInt8) (u:Unit):strings_IndexByte ([b],(c.toNat:Int),u) () = some (if b = c then 0 else -1,()):=by
  unfold strings_IndexByte idxbF
  have e:((c.toNat:Int)).toNat.toUInt8 = c:=by
    rw [Int.toNat_natCast]
    exact UInt8.ofNat_toNat
  show some (Lib.indexByte [b] ((c.toNat:Int)).toNat.toUInt8,()) = _
  rw [e]
  unfold Lib.indexByte
  by_cases h:b = c
  · simp [h]
  · simp [h,Lib.indexByte]
theorem spl_inv {s:List UInt8} {b:UInt8} {i:Nat} {x:List (List UInt8) × Nat} (h:x.2 <= i /\ x.1.length <= i):(splF s b i x).2 <= i + 1 /\ (splF s b i x).1.length <= i + 1:=by
  unfold splF
  cases s[i]? with
  | none => simp only; omega
  | some c =>
    simp only
    split
    · simp; omega
    · omega
theorem L9 (s:List UInt8) (b:UInt8) (u:Unit) (hl:s.length <= 1073741824):Ca (s,[b],u) () = some (splR b s,()):=by
  have key:=fun A:Type => Abd (A:=A) (F:=Il) (fun i (x:List (List UInt8) × Nat) => ((i:Int),(s.length:Int),[b],x.1,s,(x.2:Int),())) s.length (fun i x => x.2 <= i /\ x.1.length <= i) (splF s b)
    (fun x => Sum.inl (false,(s.length:Int),(s.length:Int),[b],x.1,s,(x.2:Int),())) (by omega)
    (fun i x hi hI => by
      refine ⟨?_,spl_inv hI⟩
      have hix:=idxN hi (Nat.le_refl _) (show s.length <= 1099511627776 by omega)
      have ha:addI x.1 [(s.take i).drop x.2] = some (x.1 ++ [(s.take i).drop x.2]):=addI_ok (by rw [room_eq]; simp; omega)
      unfold Il splF
      rw [List.getElem?_eq_getElem hi]
      simp only [lt_yes hi,if_true,Sq hi,Ad,idx_one]
      by_cases hc:s[i] = b
      · have e0:(if b = s[i] then (0:Int) else -1) = 0:=if_pos hc.symm
        have e1:leZ 0 0 = true:=rfl
        simp only [e0,e1,if_true,cut_to hI.1 (Nat.le_of_lt hi),Ad,ha,hix,if_pos hc]
      · have e0:(if b = s[i] then (0:Int) else -1) = -1:=if_neg fun e => hc e.symm
        have e1:leZ 0 (-1) = false:=rfl
        simp only [e0,e1,Bool.false_eq_true,if_false,Ad,hix,if_neg hc])
    (fun x hI => by
      unfold Il
      simp only [lt_no,Bool.false_eq_true,if_false]) (a:=([],0)) ⟨by simp,by simp⟩
  have l0:=fun A => (key A).1
  obtain ⟨i1,i2⟩:=(key Unit).2
  have z:((0:Nat):Int) = 0:=rfl
  simp only [z] at l0
  have ha:∀ y,addI (foldN (splF s b) s.length 0 ([],0)).1 [y] = some ((foldN (splF s b) s.length 0 ([],0)).1 ++ [y]):=fun y => addI_ok (by rw [room_eq]; simp; omega)
  unfold Ca
  simp only [lenI_eq,l0,Ad,cut_to i1 (Nat.le_refl _),ha,spl_all]
open Go.Abs
set_option linter.unusedVariables false
set_option linter.unusedSimpArgs false
theorem Dp (s:List UInt8) (u:Unit) (hl:s.length <= 1073741824):Az (s,u) () = some (((pI s).1,(pI s).2,()),()):=by
  unfold Az parseF
  exact if_pos (show s.length <= 1099511627776 by omega)
theorem fmtV_in {n:Int} (h1:-100000 <= n) (h2:n <= 100000):fmtV n = Lib.itoa n:=by
  unfold fmtV
  rw [if_pos (inB_iff.2 ⟨h1,h2⟩)]
end Go.Proofs.YtbkefganebmlnaaGreatDoor
