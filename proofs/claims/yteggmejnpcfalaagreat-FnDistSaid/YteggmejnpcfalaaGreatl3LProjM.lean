/-
  Plain laws: numbers in a row, lists that hold a number, sets, domains (several small texts in one). Condition: no list is longer than 2 to the 40.
-/
import Derived.Test.YteggmejnpcfalaaGreatN33
import Derived.Test.YteggmejnpcfalaaGreatl3W
namespace Go.Proofs.YteggmejnpcfalaaGreat
open Go.Abs
set_option linter.unusedVariables false
set_option linter.unusedSimpArgs false
theorem Bf (x lo hi:Int) (u:Unit):A0 (x,lo,hi,u) () = some (inB x lo hi,()):=by
 unfold A0 inB
 generalize leZ lo x = p
 cases p <;> rfl
theorem Bi (x lo hi:Int) (u:Unit):A7 (x,lo,hi,u) () = some (inB x lo hi,()):=Bf x lo hi u
theorem Q4 (x:Int) (u:Unit):Iq (x,u) () = some (inB x 0 60,()):=by
 unfold Iq
 simp only [Bf,Ab]
theorem Rq (x:Int) (u:Unit):Ix (x,u) () = some (inB x 0 20,()):=by
 unfold Ix
 simp only [Bf,Ab]
def stepI (l:List D_Step) (i:Nat):Bool:=match l[i]? with
 | some s => inB s.1 0 60 && inB s.2.1 0 20 && (match i with | 0 => true | j + 1 => match l[j]? with | some r => notB (leZ s.1 r.1) | none => true)
 | none => true
def firstB (l:List D_Step):Bool:=match l[0]? with | some s => eqZ s.1 0 | none => true
def stepsB (l:List D_Step):Bool:=((List.range l.length).all (stepI l) && firstB l) && inB l.length 1 8
theorem Wa (l:List D_Step) (u:Unit) (hl:l.length <= 1099511627776):Ly (l,u) () = some (stepsB l,()):=by
 unfold Ly stepsB
 simp only [lenI_eq]
 rw [allIS (F:=Jj) (fun i => ((i:Int),(l.length:Int),l,l,())) (0,(l.length:Int),l,l,()) l.length (stepI l) (Sum.inl (false,(l.length:Int),(l.length:Int),l,l,())) (false,()) rfl hl
  (fun i hi => by
   unfold Jj stepI
   simp only [lt_yes hi,if_true,getI_lt hi,Ab,Bi,idxN hi hl (Nat.le_refl _),List.getElem?_eq_getElem hi]
   generalize inB _ 0 60 = p
   generalize inB _ 0 20 = q
   cases i with
   | zero =>
    have e:ltZ 0 ((0:Nat):Int) = false:=rfl
    simp only [e]
    cases p <;> cases q <;> rfl
   | succ j =>
    have e:ltZ 0 ((j + 1:Nat):Int) = true:=by rw [ltZ_iff]; omega
    have hj:j < l.length:=by omega
    simp only [e,if_true,P8 j (by omega),getI_lt hj,Ab,List.getElem?_eq_getElem hj]
    generalize leZ _ _ = r
    cases p <;> cases q <;> cases r <;> simp [-Int.natCast_add,onFirst,notB,idxN hi hl (Nat.le_refl _)])
  (by unfold Jj; simp only [lt_no,Bool.false_eq_true,if_false])]
 have hf:inB (l.length:Int) 1 8 = true -> ∃ s,getI l 0 = some s /\ firstB l = eqZ s.1 0:=by
  intro h
  have:=(inB_iff.1 h).1
  have h0:0 < l.length:=by omega
  refine ⟨l[0],getI_lt h0,?_⟩
  unfold firstB
  rw [List.getElem?_eq_getElem h0]
 simp only [Bi]
 generalize (List.range l.length).all (stepI l) = p
 cases hb:inB (l.length:Int) 1 8 with
 | false => cases p <;> simp [Bi,hb]
 | true =>
  obtain ⟨s,e1,e2⟩:=hf hb
  cases p
  ·simp
  ·simp [Bi,hb,e1,e2]
theorem Pi (l:List D_Step) (u:Unit) (hl:l.length <= 1099511627776):Kg (l,u) () = some (stepsB l,()):=by
 unfold Kg stepsB
 simp only [lenI_eq]
 rw [allIS (F:=Ji) (fun i => ((i:Int),(l.length:Int),l,l,())) (0,(l.length:Int),l,l,()) l.length (fun i => stepI l i && onFirst (firstB l) i) (Sum.inl (false,(l.length:Int),(l.length:Int),l,l,())) (false,()) rfl hl
  (fun i hi => by
   unfold Ji stepI onFirst
   simp only [lt_yes hi,if_true,getI_lt hi,Ab,Q4,Rq,idxN hi hl (Nat.le_refl _),List.getElem?_eq_getElem hi]
   generalize inB _ 0 60 = p
   generalize inB _ 0 20 = q
   cases i with
   | zero =>
    have e:ltZ 0 ((0:Nat):Int) = false:=rfl
    have e':eqZ ((0:Nat):Int) 0 = true:=rfl
    have ef:firstB l = eqZ l[0].1 0:=by unfold firstB; rw [List.getElem?_eq_getElem hi]
    simp only [e,e',ef]
    generalize eqZ _ 0 = r
    cases p <;> cases q <;> cases r <;> rfl
   | succ j =>
    have e:ltZ 0 ((j + 1:Nat):Int) = true:=by rw [ltZ_iff]; omega
    have e':eqZ ((j + 1:Nat):Int) 0 = false:=eqZ_ne (by omega)
    have hj:j < l.length:=by omega
    simp only [e,e',if_true,P8 j (by omega),getI_lt hj,Ab,List.getElem?_eq_getElem hj]
    generalize leZ _ _ = r
    cases p <;> cases q <;> cases r <;> simp [-Int.natCast_add,onFirst,notB,idxN hi hl (Nat.le_refl _)])
  (by unfold Ji; simp only [lt_no,Bool.false_eq_true,if_false])]
 rw [Aag (fun h => by
  have:l = []:=List.length_eq_zero_iff.1 h
  rw [this]; rfl)]
 simp only [Bf]
 generalize ((List.range l.length).all (stepI l) && firstB l) = p
 cases p
 ·simp
 ·simp
theorem Ta (l:List Int) (n:Int) (u:Unit) (hl:l.length <= 1099511627776):Lo (l,n,u) () = some ((l.all fun x => inB x 0 20) && eqZ l.length n,()):=by
 unfold Lo
 simp only [lenI_eq]
 rw [allS (F:=Jn) (fun i => ((i:Int),(l.length:Int),l,l,n,())) (0,(l.length:Int),l,l,n,()) l (fun x => inB x 0 20) (Sum.inl (false,(l.length:Int),(l.length:Int),l,l,n,())) (false,()) rfl hl
  (fun i hi => by
   unfold Jn
   simp only [lt_yes hi,if_true,getI_lt hi,Ab,Bi,idxN hi hl (Nat.le_refl _)]
   generalize inB _ 0 20 = p
   cases p <;> rfl)
  (by unfold Jn; simp only [lt_no,Bool.false_eq_true,if_false])]
 generalize (l.all fun x => inB x 0 20) = p
 cases p <;> rfl
theorem O0 (l:List Int) (n:Int) (u:Unit) (hl:l.length <= 1099511627776):Gt (l,n,u) () = some ((l.all fun x => inB x 0 20) && eqZ l.length n,()):=by
 unfold Gt
 simp only [lenI_eq]
 rw [allS (F:=Gm) (fun i => ((i:Int),(l.length:Int),l,l,n,())) (0,(l.length:Int),l,l,n,()) l (fun x => inB x 0 20) (Sum.inl (false,(l.length:Int),(l.length:Int),l,l,n,())) (false,()) rfl hl
  (fun i hi => by
   unfold Gm
   simp only [lt_yes hi,if_true,getI_lt hi,Ab,Rq,idxN hi hl (Nat.le_refl _)]
   generalize inB _ 0 20 = p
   cases p <;> rfl)
  (by unfold Gm; simp only [lt_no,Bool.false_eq_true,if_false])]
 generalize (l.all fun x => inB x 0 20) = p
 cases p <;> rfl
def modeB (m:D_Mode) (r s:Int):Bool:=inB m.1 1 12 && ((m.2.1.all fun x => inB x 0 20) && eqZ m.2.1.length r) && ((m.2.2.1.all fun x => inB x 0 20) && eqZ m.2.2.1.length s)
theorem Xj (m:D_Mode) (r s:Int) (u:Unit) (h:Sm_Mode 1099511627776 m):N1 (m,r,s,u) () = some (modeB m r s,()):=by
 unfold N1 modeB
 simp only [Bi,Ta _ _ _ h.2.1.1,Ta _ _ _ h.2.2.1.1,Ab]
 generalize inB _ 1 12 = p
 generalize ((m.2.1.all fun x => inB x 0 20) && eqZ m.2.1.length r) = q
 generalize ((m.2.2.1.all fun x => inB x 0 20) && eqZ m.2.2.1.length s) = t
 cases p <;> cases q <;> cases t <;> rfl
theorem Xl (m:D_Mode) (r s:Int) (u:Unit) (h:Sm_Mode 1099511627776 m):Mk (m,r,s,u) () = some (modeB m r s,()):=by
 unfold Mk modeB
 simp only [Bf,O0 _ _ _ h.2.1.1,O0 _ _ _ h.2.2.1.1,Ab]
 generalize inB _ 1 12 = p
 generalize ((m.2.1.all fun x => inB x 0 20) && eqZ m.2.1.length r) = q
 generalize ((m.2.2.1.all fun x => inB x 0 20) && eqZ m.2.2.1.length s) = t
 cases p <;> cases q <;> cases t <;> rfl
def nameI (s:List UInt8) (i:Nat):Bool:=match s[i]? with
 | some b => !(!(leZ 97 (b.toNat:Int) && leZ (b.toNat:Int) 122) && (eqZ i 0 || ltZ (b.toNat:Int) 48 || ltZ 57 (b.toNat:Int)))
 | none => true
def nameB (s:List UInt8):Bool:=(List.range s.length).all (nameI s) && inB s.length 1 8
theorem Xa (s:List UInt8) (u:Unit) (hl:s.length <= 1099511627776):N8 (s,u) () = some (nameB s,()):=by
 unfold N8 nameB
 simp only [lenI_eq]
 rw [allIS (F:=Jw) (fun i => ((i:Int),s,())) (0,s,()) s.length (nameI s) (Sum.inl (false,(s.length:Int),s,())) (false,()) rfl hl
  (fun i hi => by
   unfold Jw nameI
   have eb:=V0 hi
   rw [List.getElem?_eq_getElem hi]
   revert eb
   show byteAt s (i:Int) = some ((s[i].toNat:Nat):Int) -> _ = some (if (!(!(leZ 97 ((s[i].toNat:Nat):Int) && leZ ((s[i].toNat:Nat):Int) 122) && (eqZ i 0 || ltZ ((s[i].toNat:Nat):Int) 48 || ltZ 57 ((s[i].toNat:Nat):Int)))) = true then _ else _)
   generalize ((s[i].toNat:Nat):Int) = b
   intro eb
   simp only [lenI_eq,lt_yes hi,if_true,eb,Ab]
   cases hp:leZ 97 b <;> cases hq:leZ b 122 <;> cases hr:eqZ (i:Int) 0 <;> cases ht:ltZ b 48 <;> cases hv:ltZ 57 b <;> simp [-Int.natCast_add,notB,eb,hp,hq,hr,ht,hv,idxN hi hl (Nat.le_refl _)])
  (by unfold Jw; simp only [lenI_eq,lt_no,Bool.false_eq_true,if_false])]
 simp only [Bi]
 generalize (List.range s.length).all (nameI s) = p
 cases p <;> simp
theorem Xo (s:List UInt8) (u:Unit) (hl:s.length <= 1099511627776):Mj (s,u) () = some (nameB s,()):=by
 unfold Mj nameB
 simp only [lenI_eq]
 rw [allIS (F:=J2) (fun i => ((i:Int),(s.length:Int),s,())) (0,(s.length:Int),s,()) s.length (nameI s) (Sum.inl (false,(s.length:Int),(s.length:Int),s,())) (false,()) rfl hl
  (fun i hi => by
   unfold J2 nameI
   have eb:=V0 hi
   rw [List.getElem?_eq_getElem hi]
   revert eb
   show byteAt s (i:Int) = some ((s[i].toNat:Nat):Int) -> _ = some (if (!(!(leZ 97 ((s[i].toNat:Nat):Int) && leZ ((s[i].toNat:Nat):Int) 122) && (eqZ i 0 || ltZ ((s[i].toNat:Nat):Int) 48 || ltZ 57 ((s[i].toNat:Nat):Int)))) = true then _ else _)
   generalize ((s[i].toNat:Nat):Int) = b
   intro eb
   simp only [lenI_eq,lt_yes hi,if_true,eb,Ab]
   cases hp:leZ 97 b <;> cases hq:leZ b 122 <;> cases hr:eqZ (i:Int) 0 <;> cases ht:ltZ b 48 <;> cases hv:ltZ 57 b <;> simp [-Int.natCast_add,notB,eb,hp,hq,hr,ht,hv,idxN hi hl (Nat.le_refl _)])
  (by unfold J2; simp only [lenI_eq,lt_no,Bool.false_eq_true,if_false])]
 simp only [Bf]
 generalize (List.range s.length).all (nameI s) = p
 cases p <;> simp
def actB (a:Ad) (r s:Int):Bool:=(a.2.2.1.all fun m => modeB m r s) && (nameB a.1 && inB a.2.1 0 3 && inB a.2.2.1.length 1 3)
theorem Q8 (a:Ad) (r s:Int) (u:Unit) (h:N5 1099511627776 a):Lj (a,r,s,u) () = some (actB a r s,()):=by
 have hl:=h.2.2.1.1
 unfold Lj actB
 simp only [lenI_eq]
 rw [allS (F:=Gp) (fun i => ((i:Int),(a.2.2.1.length:Int),a.2.2.1,r,s,a,())) (0,(a.2.2.1.length:Int),a.2.2.1,r,s,a,()) a.2.2.1 (fun m => modeB m r s) (Sum.inl (false,(a.2.2.1.length:Int),(a.2.2.1.length:Int),a.2.2.1,r,s,a,())) (false,()) rfl hl
  (fun i hi => by
   unfold Gp
   simp only [lt_yes hi,if_true,getI_lt hi,Ab,Xj _ _ _ _ (h.2.2.1.2 _ (List.getElem_mem hi)),idxN hi hl (Nat.le_refl _)]
   generalize modeB _ _ _ = p
   cases p <;> rfl)
  (by unfold Gp; simp only [lt_no,Bool.false_eq_true,if_false])]
 cases hp:(a.2.2.1.all fun m => modeB m r s) <;> cases hq:nameB a.1 <;> cases ht:inB a.2.1 0 3 <;> cases hv:inB (a.2.2.1.length:Int) 1 3 <;> simp [Xa _ _ h.1,Bi,hq,ht,hv]
theorem Qu (a:Ad) (r s:Int) (u:Unit) (h:N5 1099511627776 a):Iz (a,r,s,u) () = some (actB a r s,()):=by
 have hl:=h.2.2.1.1
 unfold Iz actB
 simp only [lenI_eq]
 rw [allS (F:=Gi) (fun i => ((i:Int),(a.2.2.1.length:Int),a.2.2.1,r,s,a,())) (0,(a.2.2.1.length:Int),a.2.2.1,r,s,a,()) a.2.2.1 (fun m => modeB m r s) (Sum.inl (false,(a.2.2.1.length:Int),(a.2.2.1.length:Int),a.2.2.1,r,s,a,())) (false,()) rfl hl
  (fun i hi => by
   unfold Gi
   simp only [lt_yes hi,if_true,getI_lt hi,Ab,Xl _ _ _ _ (h.2.2.1.2 _ (List.getElem_mem hi)),idxN hi hl (Nat.le_refl _)]
   generalize modeB _ _ _ = p
   cases p <;> rfl)
  (by unfold Gi; simp only [lt_no,Bool.false_eq_true,if_false])]
 cases hp:(a.2.2.1.all fun m => modeB m r s) <;> cases hq:nameB a.1 <;> cases ht:inB a.2.1 0 3 <;> cases hv:inB (a.2.2.1.length:Int) 1 3 <;> simp [Xo _ _ h.1,Bf,hq,ht,hv]
theorem Ox (p:Aa) (s:List UInt8) (u:Unit) (hl:p.2.1.length <= 1099511627776):Ja (p,s,u) () = some (idxOf (fun a => eqS a.1 s) p.2.1,()):=by
 unfold Ja idxOf
 simp only [lenI_eq]
 rw [findS (F:=Eg) (fun i => ((i:Int),(p.2.1.length:Int),p.2.1,s,())) (0,(p.2.1.length:Int),p.2.1,s,()) p.2.1 (fun a => eqS a.1 s) (Sum.inl (false,(p.2.1.length:Int),(p.2.1.length:Int),p.2.1,s,())) (fun i => ((i:Int),())) rfl hl
  (fun i hi => by
   unfold Eg
   simp only [lt_yes hi,if_true,getI_lt hi,Ab,idxN hi hl (Nat.le_refl _)]
   generalize eqS _ _ = q
   cases q <;> rfl)
  (by unfold Eg; simp only [lt_no,Bool.false_eq_true,if_false])]
 cases p.2.1.findIdx? (fun a => eqS a.1 s) <;> rfl
theorem Ul (l:List Ad) (f:(Ad × Unit) -> Option Bool) (q:Ad -> Bool) (u:Unit) (hl:l.length <= 1099511627776) (hf:∀ a ∈ l,f (a,()) = some (q a)):Aw (l,f,u) () = some (idxOf q l,()):=by
 unfold Aw idxOf
 simp only [lenI_eq]
 rw [findS (F:=Ap) (fun i => ((i:Int),(l.length:Int),f,l,())) (0,(l.length:Int),f,l,()) l q (Sum.inl (false,(l.length:Int),(l.length:Int),f,l,())) (fun i => ((i:Int),())) rfl hl
  (fun i hi => by
   unfold Ap
   simp only [lt_yes hi,if_true,getI_lt hi,Ab,hf _ (List.getElem_mem hi),idxN hi hl (Nat.le_refl _)]
   generalize q _ = r
   cases r <;> rfl)
  (by unfold Ap; simp only [lt_no,Bool.false_eq_true,if_false])]
 cases l.findIdx? q <;> rfl
theorem Oe (p:Aa) (s:List UInt8) (u:Unit) (hl:p.2.1.length <= 1099511627776):Gq (p,s,u) () = some (idxOf (fun a => eqS a.1 s) p.2.1,()):=by
 unfold Gq
 have e:=Ul p.2.1 (fun v0 => (Option.bind (Hx v0 (s,())) fun v1 => (some v1.1))) (fun a => eqS a.1 s) () hl (fun a _ => rfl)
 simp only [e,Ab]
theorem Rx (l:List D_Link) (f:(D_Link × Unit) -> Option Bool) (q:D_Link -> Bool) (u:Unit) (hl:l.length <= 1099511627776) (hf:∀ a ∈ l,f (a,()) = some (q a)):Ba (l,f,u) () = some (idxOf q l,()):=by
 unfold Ba idxOf
 simp only [lenI_eq]
 rw [findS (F:=A5) (fun i => ((i:Int),(l.length:Int),f,l,())) (0,(l.length:Int),f,l,()) l q (Sum.inl (false,(l.length:Int),(l.length:Int),f,l,())) (fun i => ((i:Int),())) rfl hl
  (fun i hi => by
   unfold A5
   simp only [lt_yes hi,if_true,getI_lt hi,Ab,hf _ (List.getElem_mem hi),idxN hi hl (Nat.le_refl _)]
   generalize q _ = r
   cases r <;> rfl)
  (by unfold A5; simp only [lt_no,Bool.false_eq_true,if_false])]
 cases l.findIdx? q <;> rfl
def rowB (row:List Int):Bool:=eqZ row.length 4 && row.all fun n => inB n 0 12
def resrB (r:Ai):Bool:=r.2.1.all rowB && (stepsB r.1 && (eqZ r.2.1.length 0 || eqZ r.2.1.length 4))
theorem Qo (r:Ai) (u:Unit) (h:N0 1099511627776 r):Lc (r,u) () = some (resrB r,()):=by
 have hl:=h.2.1.1
 unfold Lc resrB
 simp only [lenI_eq]
 rw [allS (F:=F6) (fun i => ((i:Int),(r.2.1.length:Int),r.2.1,r,())) (0,(r.2.1.length:Int),r.2.1,r,()) r.2.1 rowB (Sum.inl (false,(r.2.1.length:Int),(r.2.1.length:Int),r.2.1,r,())) (false,()) rfl hl
  (fun i hi => by
   have hr:=(h.2.1.2 _ (List.getElem_mem hi)).1
   unfold F6 rowB
   simp only [lt_yes hi,if_true,getI_lt hi,Ab]
   have hq0:eqZ (lenI r.2.1[i]) 4 = eqZ (r.2.1[i].length:Int) 4:=rfl
   rw [allS (F:=F5) (fun j => ((j:Int),(r.2.1[i].length:Int),r.2.1[i],(i:Int),(r.2.1.length:Int),r.2.1,r,())) (0,lenI r.2.1[i],r.2.1[i],(i:Int),(r.2.1.length:Int),r.2.1,r,()) r.2.1[i] (fun n => inB n 0 12) (Sum.inl (false,(r.2.1[i].length:Int),(r.2.1[i].length:Int),r.2.1[i],(i:Int),(r.2.1.length:Int),r.2.1,r,())) (false,()) rfl hr
    (fun j hj => by
     unfold F5
     simp only [lt_yes hj,if_true,getI_lt hj,Ab,Bi,idxN hj hr (Nat.le_refl _)]
     generalize inB _ 0 12 = p
     cases p <;> rfl)
    (by unfold F5; simp only [lt_no,Bool.false_eq_true,if_false])]
   cases hp:(r.2.1[i].all fun n => inB n 0 12) <;> cases hq:eqZ (r.2.1[i].length:Int) 4 <;> simp [-Int.natCast_add,notB,hq0,hq,idxN hi hl (Nat.le_refl _)])
  (by unfold F6; simp only [lt_no,Bool.false_eq_true,if_false])]
 cases hp:r.2.1.all rowB <;> cases hq:stepsB r.1 <;> cases ht:eqZ (r.2.1.length:Int) 0 <;> cases hv:eqZ (r.2.1.length:Int) 4 <;> simp [Wa _ _ h.1.1,lenI_eq,hq,ht,hv]
theorem Rs (r:Ai) (u:Unit) (h:N0 1099511627776 r):I6 (r,u) () = some (resrB r,()):=by
 have hl:=h.2.1.1
 unfold I6 resrB
 simp only [lenI_eq]
 rw [allS (F:=F9) (fun i => ((i:Int),(r.2.1.length:Int),r.2.1,r,())) (0,(r.2.1.length:Int),r.2.1,r,()) r.2.1 rowB (Sum.inl (false,(r.2.1.length:Int),(r.2.1.length:Int),r.2.1,r,())) (false,()) rfl hl
  (fun i hi => by
   have hr:=(h.2.1.2 _ (List.getElem_mem hi)).1
   unfold F9 rowB
   simp only [lt_yes hi,if_true,getI_lt hi,Ab]
   have hq0:eqZ (lenI r.2.1[i]) 4 = eqZ (r.2.1[i].length:Int) 4:=rfl
   rw [allS (F:=Ga) (fun j => ((j:Int),(r.2.1[i].length:Int),r.2.1[i],(i:Int),(r.2.1.length:Int),r.2.1,r,())) (0,lenI r.2.1[i],r.2.1[i],(i:Int),(r.2.1.length:Int),r.2.1,r,()) r.2.1[i] (fun n => inB n 0 12) (Sum.inl (false,(r.2.1[i].length:Int),(r.2.1[i].length:Int),r.2.1[i],(i:Int),(r.2.1.length:Int),r.2.1,r,())) (false,()) rfl hr
    (fun j hj => by
     unfold Ga
     simp only [lt_yes hj,if_true,getI_lt hj,Ab,Bf,idxN hj hr (Nat.le_refl _)]
     generalize inB _ 0 12 = p
     cases p <;> rfl)
    (by unfold Ga; simp only [lt_no,Bool.false_eq_true,if_false])]
   cases hp:(r.2.1[i].all fun n => inB n 0 12) <;> cases hq:eqZ (r.2.1[i].length:Int) 4 <;> simp [-Int.natCast_add,notB,hq0,hq,idxN hi hl (Nat.le_refl _)])
  (by unfold F9; simp only [lt_no,Bool.false_eq_true,if_false])]
 cases hp:r.2.1.all rowB <;> cases hq:stepsB r.1 <;> cases ht:eqZ (r.2.1.length:Int) 0 <;> cases hv:eqZ (r.2.1.length:Int) 4 <;> simp [Pi _ _ h.1.1,lenI_eq,hq,ht,hv]
open Go.Abs
set_option linter.unusedVariables false
set_option linter.unusedSimpArgs false
def actI (p:Aa) (i:Nat):Bool:=match p.2.1[i]? with
 | some a => actB a (lenI p.2.2.2.1) (lenI p.2.2.2.2.1) && eqZ (idxOf (fun b => eqS b.1 a.1) p.2.1) i
 | none => true
def linkB (n:Int) (k:D_Link):Bool:=inB k.1 0 (subZ .i64 n 1) && inB k.2.1 0 (subZ .i64 n 1) && notB (eqZ k.1 k.2.1) && inB k.2.2.2.1 (-60) 60
def projB (p:Aa):Bool:=(inB p.1 1 60 && inB (lenI p.2.1) 1 6 && notB (ltZ 3 (lenI p.2.2.2.1)) && notB (ltZ 2 (lenI p.2.2.2.2.1)) && notB (ltZ 12 (lenI p.2.2.1))) &&
 (List.range p.2.1.length).all (actI p) && p.2.2.2.1.all resrB && (p.2.2.2.2.1.all fun n => inB n 0 100) && p.2.2.1.all (linkB (lenI p.2.1))
theorem Sa (p:Aa) (u:Unit) (h:Af 1099511627776 p):L3 (p,u) () = some (projB p,()):=by
 obtain ⟨-,⟨ha,hA⟩,⟨hk,-⟩,⟨hr,hR⟩,⟨hs,-⟩,-⟩:=h
 have l0:=fun A:Type => allIS (A:=A) (F:=G8) (fun i => ((i:Int),lenI p.2.1,p.2.1,p,lenI p.2.1,())) (0,lenI p.2.1,p.2.1,p,lenI p.2.1,()) p.2.1.length (actI p) (Sum.inl (false,lenI p.2.1,lenI p.2.1,p.2.1,p,lenI p.2.1,())) (false,()) rfl ha
  (fun i hi => by
   unfold G8 actI
   simp only [lenI_eq,lt_yes hi,if_true,getI_lt hi,Ab,List.getElem?_eq_getElem hi]
   simp only [Q8 _ _ _ _ (hA _ (List.getElem_mem hi)),Ab,Ox _ _ _ ha,idxN hi ha (Nat.le_refl _)]
   cases hp:actB p.2.1[i] (p.2.2.2.1.length:Int) (p.2.2.2.2.1.length:Int) <;> cases hq:eqZ (idxOf (fun b => eqS b.1 p.2.1[i].1) p.2.1) (i:Int) <;> simp [-Int.natCast_add,notB,hq,idxN hi ha (Nat.le_refl _)])
  (by unfold G8; simp only [lenI_eq,lt_no,Bool.false_eq_true,if_false])
 have l1:=fun A:Type => allS (A:=A) (F:=Hl) (fun i => ((i:Int),lenI p.2.2.2.1,p.2.2.2.1,p,lenI p.2.1,())) (0,lenI p.2.2.2.1,p.2.2.2.1,p,lenI p.2.1,()) p.2.2.2.1 resrB (Sum.inl (false,lenI p.2.2.2.1,lenI p.2.2.2.1,p.2.2.2.1,p,lenI p.2.1,())) (false,()) rfl hr
  (fun i hi => by
   unfold Hl
   simp only [lenI_eq,lt_yes hi,if_true,getI_lt hi,Ab,Qo _ _ (hR _ (List.getElem_mem hi)),idxN hi hr (Nat.le_refl _)]
   cases hp:resrB p.2.2.2.1[i] <;> simp [-Int.natCast_add,notB])
  (by unfold Hl; simp only [lenI_eq,lt_no,Bool.false_eq_true,if_false])
 have l2:=fun A:Type => allS (A:=A) (F:=Hk) (fun i => ((i:Int),lenI p.2.2.2.2.1,p.2.2.2.2.1,p,lenI p.2.1,())) (0,lenI p.2.2.2.2.1,p.2.2.2.2.1,p,lenI p.2.1,()) p.2.2.2.2.1 (fun n => inB n 0 100) (Sum.inl (false,lenI p.2.2.2.2.1,lenI p.2.2.2.2.1,p.2.2.2.2.1,p,lenI p.2.1,())) (false,()) rfl hs
  (fun i hi => by
   unfold Hk
   simp only [lenI_eq,lt_yes hi,if_true,getI_lt hi,Ab,Bi,idxN hi hs (Nat.le_refl _)]
   cases hp:inB p.2.2.2.2.1[i] 0 100 <;> simp [-Int.natCast_add,notB])
  (by unfold Hk; simp only [lenI_eq,lt_no,Bool.false_eq_true,if_false])
 have l3:=fun A:Type => allS (A:=A) (F:=Hf) (fun i => ((i:Int),lenI p.2.2.1,p.2.2.1,lenI p.2.1,())) (0,lenI p.2.2.1,p.2.2.1,lenI p.2.1,()) p.2.2.1 (linkB (lenI p.2.1)) (Sum.inl (false,lenI p.2.2.1,lenI p.2.2.1,p.2.2.1,lenI p.2.1,())) (false,()) rfl hk
  (fun i hi => by
   unfold Hf linkB
   generalize lenI p.2.1 = n
   simp only [lenI_eq,lt_yes hi,if_true,getI_lt hi,Ab,Bi]
   cases h1:inB p.2.2.1[i].1 0 (subZ .i64 n 1) <;> cases h2:inB p.2.2.1[i].2.1 0 (subZ .i64 n 1) <;> cases h3:eqZ p.2.2.1[i].1 p.2.2.1[i].2.1 <;> cases h4:inB p.2.2.1[i].2.2.2.1 (-60) 60 <;>
    simp [-Int.natCast_add,notB,Bi,h2,h3,h4,idxN hi hk (Nat.le_refl _)])
  (by unfold Hf; simp only [lenI_eq,lt_no,Bool.false_eq_true,if_false])
 unfold L3 projB
 simp only [Bi,Ab]
 cases h1:inB p.1 1 60 with
 | false => simp [notB]
 | true =>
 cases h2:inB (lenI p.2.1) 1 6 with
 | false => simp [notB,Bi,h2]
 | true =>
 cases h3:ltZ 3 (lenI p.2.2.2.1) with
 | true => simp [notB,Bi,h2,h3]
 | false =>
 cases h4:ltZ 2 (lenI p.2.2.2.2.1) with
 | true => simp [notB,Bi,h2,h3,h4]
 | false =>
 cases h5:ltZ 12 (lenI p.2.2.1) with
 | true => simp [notB,Bi,h2,h3,h4,h5]
 | false =>
 simp only [Ak,Dj,Bool.false_eq_true,if_false,h2,h3,h4,h5,Ab,l0]
 cases k0:(List.range p.2.1.length).all (actI p) with
 | false => simp
 | true =>
 simp only [if_true,Ab,l1]
 cases k1:p.2.2.2.1.all resrB with
 | false => simp
 | true =>
 simp only [if_true,Ab,l2]
 cases k2:(p.2.2.2.2.1.all fun n => inB n 0 100) with
 | false => simp
 | true =>
 simp only [if_true,Ab,l3]
 cases k3:p.2.2.1.all (linkB (lenI p.2.1)) with
 | false => simp
 | true => simp
theorem H0 (p:Aa) (a:Int) (u:Unit):As (p,a,u) () = some (inB a 0 (subZ .i64 (lenI p.2.1) 1),()):=by
 unfold As
 simp only [Bf,Ab]
theorem Aa0 (p:Aa) (k:D_Link) (u:Unit):Fe (p,k,u) () = some (linkB (lenI p.2.1) k,()):=by
 unfold Fe linkB
 simp only [H0,Bf,Ab]
 generalize lenI p.2.1 = n
 cases h1:inB k.1 0 (subZ .i64 n 1) <;> cases h2:inB k.2.1 0 (subZ .i64 n 1) <;> cases h3:eqZ k.1 k.2.1 <;> cases h4:inB k.2.2.2.1 (-60) 60 <;> simp [notB]
theorem Z7 {E:Type} (q:E -> Bool) (l:List E):notB (l.any fun k => notB (q k)) = l.all q:=by
 induction l with
 | nil => rfl
 | cons x l ih =>
  simp only [List.any_cons,List.all_cons,<- ih]
  cases q x <;> simp [notB]
theorem Ay (p:Aa) (u:Unit) (h:Af 1099511627776 p):Ao (p,u) () = some (projB p,()):=by
 obtain ⟨-,⟨ha,hA⟩,⟨hk,-⟩,⟨hr,hR⟩,⟨hs,-⟩,-⟩:=h
 have l0:=fun A:Type => allIS (A:=A) (F:=Hu) (fun i => ((i:Int),lenI p.2.1,p.2.1,p,())) (0,lenI p.2.1,p.2.1,p,()) p.2.1.length (actI p) (Sum.inl (false,lenI p.2.1,lenI p.2.1,p.2.1,p,())) (false,()) rfl ha
  (fun i hi => by
   unfold Hu actI
   simp only [lenI_eq,lt_yes hi,if_true,getI_lt hi,Ab,List.getElem?_eq_getElem hi]
   simp only [Qu _ _ _ _ (hA _ (List.getElem_mem hi)),Ab,Oe _ _ _ ha,idxN hi ha (Nat.le_refl _)]
   cases hp:actB p.2.1[i] (p.2.2.2.1.length:Int) (p.2.2.2.2.1.length:Int) <;> cases hq:eqZ (idxOf (fun b => eqS b.1 p.2.1[i].1) p.2.1) (i:Int) <;> simp [-Int.natCast_add,notB,hq,idxN hi ha (Nat.le_refl _)])
  (by unfold Hu; simp only [lenI_eq,lt_no,Bool.false_eq_true,if_false])
 have l1:=fun A:Type => allS (A:=A) (F:=Hs) (fun i => ((i:Int),lenI p.2.2.2.1,p.2.2.2.1,p,())) (0,lenI p.2.2.2.1,p.2.2.2.1,p,()) p.2.2.2.1 resrB (Sum.inl (false,lenI p.2.2.2.1,lenI p.2.2.2.1,p.2.2.2.1,p,())) (false,()) rfl hr
  (fun i hi => by
   unfold Hs
   simp only [lenI_eq,lt_yes hi,if_true,getI_lt hi,Ab,Rs _ _ (hR _ (List.getElem_mem hi)),idxN hi hr (Nat.le_refl _)]
   cases hp:resrB p.2.2.2.1[i] <;> simp [-Int.natCast_add,notB])
  (by unfold Hs; simp only [lenI_eq,lt_no,Bool.false_eq_true,if_false])
 have l2:=fun A:Type => allS (A:=A) (F:=Hr) (fun i => ((i:Int),lenI p.2.2.2.2.1,p.2.2.2.2.1,p,())) (0,lenI p.2.2.2.2.1,p.2.2.2.2.1,p,()) p.2.2.2.2.1 (fun n => inB n 0 100) (Sum.inl (false,lenI p.2.2.2.2.1,lenI p.2.2.2.2.1,p.2.2.2.2.1,p,())) (false,()) rfl hs
  (fun i hi => by
   unfold Hr
   simp only [lenI_eq,lt_yes hi,if_true,getI_lt hi,Ab,Bf,idxN hi hs (Nat.le_refl _)]
   cases hp:inB p.2.2.2.2.1[i] 0 100 <;> simp [-Int.natCast_add,notB])
  (by unfold Hr; simp only [lenI_eq,lt_no,Bool.false_eq_true,if_false])
 have l3:=Rx p.2.2.1 (fun v35 => (Option.bind (H7 v35 (p,())) fun v36 => (some v36.1))) (fun k => notB (linkB (lenI p.2.1) k)) () hk (fun a _ => by
  unfold H7
  simp only [Aa0,Ab])
 unfold Ao projB
 simp only [Bf,Ab]
 cases h1:inB p.1 1 60 with
 | false => simp [notB]
 | true =>
 cases h2:inB (lenI p.2.1) 1 6 with
 | false => simp [notB,Bf,h2]
 | true =>
 cases h3:ltZ 3 (lenI p.2.2.2.1) with
 | true => simp [notB,Bf,h2,h3]
 | false =>
 cases h4:ltZ 2 (lenI p.2.2.2.2.1) with
 | true => simp [notB,Bf,h2,h3,h4]
 | false =>
 cases h5:ltZ 12 (lenI p.2.2.1) with
 | true => simp [notB,Bf,h2,h3,h4,h5]
 | false =>
 simp only [Ak,Dj,Bool.false_eq_true,if_false,h2,h3,h4,h5,Ab,l0]
 cases k0:(List.range p.2.1.length).all (actI p) with
 | false => simp
 | true =>
 simp only [if_true,Ab,l1]
 cases k1:p.2.2.2.1.all resrB with
 | false => simp
 | true =>
 simp only [if_true,Ab,l2]
 cases k2:(p.2.2.2.2.1.all fun n => inB n 0 100) with
 | false => simp
 | true =>
 simp only [if_true,Ab]
 unfold Bk
 simp only [l3,Ab,Qz,Z7,Bool.true_and,Bool.and_true,Dj]
theorem Oj {α:Type} (l:List α) (h:l.length <= 1099511627776):subZ .i64 (lenI l) 1 = (l.length:Int) - 1:=by
 rw [lenI_eq,subZ64 (by omega) (by omega)]
/-- a number that is a place in a list -/
theorem Ni {α:Type} {l:List α} (h:l.length <= 1099511627776) {x:Int} (hx:inB x 0 (subZ .i64 (lenI l) 1) = true):∃ i:Nat,x = (i:Int) /\ i < l.length:=by
 rw [Oj l h,inB_iff] at hx
 exact ⟨x.toNat,by omega,by omega⟩
end Go.Proofs.YteggmejnpcfalaaGreat
