/-
  Plain laws: numbers in a row, lists that hold a number, sets, domains (several small texts in one). Condition: no list is longer than 2 to the 40.
-/
import Derived.Test.YteggmejnpcfalaaGreatN33
import Derived.Test.YteggmejnpcfalaaGreatl4W
namespace Go.Proofs.YteggmejnpcfalaaGreat
open Go.Abs
set_option linter.unusedVariables false
set_option linter.unusedSimpArgs false
theorem within_eq (x lo hi:Int) (u:Unit):impl_within (x,lo,hi,u) () = some (inB x lo hi,()):=by
 unfold impl_within inB
 generalize leZ lo x = p
 cases p <;> rfl
theorem l01In_eq (x lo hi:Int) (u:Unit):spec_l01In (x,lo,hi,u) () = some (inB x lo hi,()):=within_eq x lo hi u
theorem isTime_eq (x:Int) (u:Unit):impl_isTime (x,u) () = some (inB x 0 60,()):=by
 unfold impl_isTime
 simp only [within_eq,some_bind']
theorem isAmount_eq (x:Int) (u:Unit):impl_isAmount (x,u) () = some (inB x 0 20,()):=by
 unfold impl_isAmount
 simp only [within_eq,some_bind']
def stepI (l:List D_Step) (i:Nat):Bool:=match l[i]? with
 | some s => inB s.1 0 60 && inB s.2.1 0 20 && (match i with | 0 => true | j + 1 => match l[j]? with | some r => notB (leZ s.1 r.1) | none => true)
 | none => true
def firstB (l:List D_Step):Bool:=match l[0]? with | some s => eqZ s.1 0 | none => true
def stepsB (l:List D_Step):Bool:=((List.range l.length).all (stepI l) && firstB l) && inB l.length 1 8
theorem StepsOk_spec (l:List D_Step) (u:Unit) (hl:l.length <= 1099511627776):spec_StepsOk (l,u) () = some (stepsB l,()):=by
 unfold spec_StepsOk stepsB
 simp only [lenI_eq]
 rw [allIS (F:=spec_StepsOk_L0) (fun i => ((i:Int),(l.length:Int),l,l,())) (0,(l.length:Int),l,l,()) l.length (stepI l) (Sum.inl (false,(l.length:Int),(l.length:Int),l,l,())) (false,()) rfl hl
  (fun i hi => by
   unfold spec_StepsOk_L0 stepI
   simp only [lt_yes hi,if_true,getI_lt hi,some_bind',l01In_eq,idxN hi hl (Nat.le_refl _),List.getElem?_eq_getElem hi]
   generalize inB _ 0 60 = p
   generalize inB _ 0 20 = q
   cases i with
   | zero =>
    have e:ltZ 0 ((0:Nat):Int) = false:=rfl
    simp only [e]
    cases p <;> cases q <;> rfl
   | succ j =>
    have e:ltZ 0 ((j + 1:Nat):Int) = true:=by rw [ltZ_iff]; omega
    have hj:j < l.length:=by omega
    simp only [e,if_true,idx_pred j (by omega),getI_lt hj,some_bind',List.getElem?_eq_getElem hj]
    generalize leZ _ _ = r
    cases p <;> cases q <;> cases r <;> simp [-Int.natCast_add,onFirst,notB,idxN hi hl (Nat.le_refl _)])
  (by unfold spec_StepsOk_L0; simp only [lt_no,Bool.false_eq_true,if_false])]
 have hf:inB (l.length:Int) 1 8 = true -> ∃ s,getI l 0 = some s /\ firstB l = eqZ s.1 0:=by
  intro h
  have:=(inB_iff.1 h).1
  have h0:0 < l.length:=by omega
  refine ⟨l[0],getI_lt h0,?_⟩
  unfold firstB
  rw [List.getElem?_eq_getElem h0]
 simp only [l01In_eq]
 generalize (List.range l.length).all (stepI l) = p
 cases hb:inB (l.length:Int) 1 8 with
 | false => cases p <;> simp [l01In_eq,hb]
 | true =>
  obtain ⟨s,e1,e2⟩:=hf hb
  cases p
  ·simp
  ·simp [l01In_eq,hb,e1,e2]
theorem StepsOk_impl (l:List D_Step) (u:Unit) (hl:l.length <= 1099511627776):impl_StepsOk (l,u) () = some (stepsB l,()):=by
 unfold impl_StepsOk stepsB
 simp only [lenI_eq]
 rw [allIS (F:=impl_StepsOk_L0) (fun i => ((i:Int),(l.length:Int),l,l,())) (0,(l.length:Int),l,l,()) l.length (fun i => stepI l i && onFirst (firstB l) i) (Sum.inl (false,(l.length:Int),(l.length:Int),l,l,())) (false,()) rfl hl
  (fun i hi => by
   unfold impl_StepsOk_L0 stepI onFirst
   simp only [lt_yes hi,if_true,getI_lt hi,some_bind',isTime_eq,isAmount_eq,idxN hi hl (Nat.le_refl _),List.getElem?_eq_getElem hi]
   generalize inB _ 0 60 = p
   generalize inB _ 0 20 = q
   cases i with
   | zero =>
    have e:ltZ 0 ((0:Nat):Int) = false:=rfl
    have e':eqZ ((0:Nat):Int) 0 = true:=rfl
    have ef:firstB l = eqZ l[0].1 0:=by unfold firstB; rw [List.getElem?_eq_getElem hi]
    simp only [e,e',ef]
    generalize eqZ _ 0 = r
    cases p <;> cases q <;> cases r <;> rfl
   | succ j =>
    have e:ltZ 0 ((j + 1:Nat):Int) = true:=by rw [ltZ_iff]; omega
    have e':eqZ ((j + 1:Nat):Int) 0 = false:=eqZ_ne (by omega)
    have hj:j < l.length:=by omega
    simp only [e,e',if_true,idx_pred j (by omega),getI_lt hj,some_bind',List.getElem?_eq_getElem hj]
    generalize leZ _ _ = r
    cases p <;> cases q <;> cases r <;> simp [-Int.natCast_add,onFirst,notB,idxN hi hl (Nat.le_refl _)])
  (by unfold impl_StepsOk_L0; simp only [lt_no,Bool.false_eq_true,if_false])]
 rw [all_first (fun h => by
  have:l = []:=List.length_eq_zero_iff.1 h
  rw [this]; rfl)]
 simp only [within_eq]
 generalize ((List.range l.length).all (stepI l) && firstB l) = p
 cases p
 ·simp
 ·simp
theorem l04Nums_eq (l:List Int) (n:Int) (u:Unit) (hl:l.length <= 1099511627776):spec_l04Nums (l,n,u) () = some ((l.all fun x => inB x 0 20) && eqZ l.length n,()):=by
 unfold spec_l04Nums
 simp only [lenI_eq]
 rw [allS (F:=spec_l04Nums_L0) (fun i => ((i:Int),(l.length:Int),l,l,n,())) (0,(l.length:Int),l,l,n,()) l (fun x => inB x 0 20) (Sum.inl (false,(l.length:Int),(l.length:Int),l,l,n,())) (false,()) rfl hl
  (fun i hi => by
   unfold spec_l04Nums_L0
   simp only [lt_yes hi,if_true,getI_lt hi,some_bind',l01In_eq,idxN hi hl (Nat.le_refl _)]
   generalize inB _ 0 20 = p
   cases p <;> rfl)
  (by unfold spec_l04Nums_L0; simp only [lt_no,Bool.false_eq_true,if_false])]
 generalize (l.all fun x => inB x 0 20) = p
 cases p <;> rfl
theorem areAmounts_eq (l:List Int) (n:Int) (u:Unit) (hl:l.length <= 1099511627776):impl_areAmounts (l,n,u) () = some ((l.all fun x => inB x 0 20) && eqZ l.length n,()):=by
 unfold impl_areAmounts
 simp only [lenI_eq]
 rw [allS (F:=impl_areAmounts_L0) (fun i => ((i:Int),(l.length:Int),l,l,n,())) (0,(l.length:Int),l,l,n,()) l (fun x => inB x 0 20) (Sum.inl (false,(l.length:Int),(l.length:Int),l,l,n,())) (false,()) rfl hl
  (fun i hi => by
   unfold impl_areAmounts_L0
   simp only [lt_yes hi,if_true,getI_lt hi,some_bind',isAmount_eq,idxN hi hl (Nat.le_refl _)]
   generalize inB _ 0 20 = p
   cases p <;> rfl)
  (by unfold impl_areAmounts_L0; simp only [lt_no,Bool.false_eq_true,if_false])]
 generalize (l.all fun x => inB x 0 20) = p
 cases p <;> rfl
def modeB (m:D_Mode) (r s:Int):Bool:=inB m.1 1 12 && ((m.2.1.all fun x => inB x 0 20) && eqZ m.2.1.length r) && ((m.2.2.1.all fun x => inB x 0 20) && eqZ m.2.2.1.length s)
theorem ModeOk_spec (m:D_Mode) (r s:Int) (u:Unit) (h:Sm_Mode 1099511627776 m):spec_ModeOk (m,r,s,u) () = some (modeB m r s,()):=by
 unfold spec_ModeOk modeB
 simp only [l01In_eq,l04Nums_eq _ _ _ h.2.1.1,l04Nums_eq _ _ _ h.2.2.1.1,some_bind']
 generalize inB _ 1 12 = p
 generalize ((m.2.1.all fun x => inB x 0 20) && eqZ m.2.1.length r) = q
 generalize ((m.2.2.1.all fun x => inB x 0 20) && eqZ m.2.2.1.length s) = t
 cases p <;> cases q <;> cases t <;> rfl
theorem ModeOk_impl (m:D_Mode) (r s:Int) (u:Unit) (h:Sm_Mode 1099511627776 m):impl_ModeOk (m,r,s,u) () = some (modeB m r s,()):=by
 unfold impl_ModeOk modeB
 simp only [within_eq,areAmounts_eq _ _ _ h.2.1.1,areAmounts_eq _ _ _ h.2.2.1.1,some_bind']
 generalize inB _ 1 12 = p
 generalize ((m.2.1.all fun x => inB x 0 20) && eqZ m.2.1.length r) = q
 generalize ((m.2.2.1.all fun x => inB x 0 20) && eqZ m.2.2.1.length s) = t
 cases p <;> cases q <;> cases t <;> rfl
def nameI (s:List UInt8) (i:Nat):Bool:=match s[i]? with
 | some b => !(!(leZ 97 (b.toNat:Int) && leZ (b.toNat:Int) 122) && (eqZ i 0 || ltZ (b.toNat:Int) 48 || ltZ 57 (b.toNat:Int)))
 | none => true
def nameB (s:List UInt8):Bool:=(List.range s.length).all (nameI s) && inB s.length 1 8
theorem IsName_spec (s:List UInt8) (u:Unit) (hl:s.length <= 1099511627776):spec_IsName (s,u) () = some (nameB s,()):=by
 unfold spec_IsName nameB
 simp only [lenI_eq]
 rw [allIS (F:=spec_IsName_L0) (fun i => ((i:Int),s,())) (0,s,()) s.length (nameI s) (Sum.inl (false,(s.length:Int),s,())) (false,()) rfl hl
  (fun i hi => by
   unfold spec_IsName_L0 nameI
   have eb:=byteAt_lt hi
   rw [List.getElem?_eq_getElem hi]
   revert eb
   show byteAt s (i:Int) = some ((s[i].toNat:Nat):Int) -> _ = some (if (!(!(leZ 97 ((s[i].toNat:Nat):Int) && leZ ((s[i].toNat:Nat):Int) 122) && (eqZ i 0 || ltZ ((s[i].toNat:Nat):Int) 48 || ltZ 57 ((s[i].toNat:Nat):Int)))) = true then _ else _)
   generalize ((s[i].toNat:Nat):Int) = b
   intro eb
   simp only [lenI_eq,lt_yes hi,if_true,eb,some_bind']
   cases hp:leZ 97 b <;> cases hq:leZ b 122 <;> cases hr:eqZ (i:Int) 0 <;> cases ht:ltZ b 48 <;> cases hv:ltZ 57 b <;> simp [-Int.natCast_add,notB,eb,hp,hq,hr,ht,hv,idxN hi hl (Nat.le_refl _)])
  (by unfold spec_IsName_L0; simp only [lenI_eq,lt_no,Bool.false_eq_true,if_false])]
 simp only [l01In_eq]
 generalize (List.range s.length).all (nameI s) = p
 cases p <;> simp
theorem IsName_impl (s:List UInt8) (u:Unit) (hl:s.length <= 1099511627776):impl_IsName (s,u) () = some (nameB s,()):=by
 unfold impl_IsName nameB
 simp only [lenI_eq]
 rw [allIS (F:=impl_IsName_L0) (fun i => ((i:Int),(s.length:Int),s,())) (0,(s.length:Int),s,()) s.length (nameI s) (Sum.inl (false,(s.length:Int),(s.length:Int),s,())) (false,()) rfl hl
  (fun i hi => by
   unfold impl_IsName_L0 nameI
   have eb:=byteAt_lt hi
   rw [List.getElem?_eq_getElem hi]
   revert eb
   show byteAt s (i:Int) = some ((s[i].toNat:Nat):Int) -> _ = some (if (!(!(leZ 97 ((s[i].toNat:Nat):Int) && leZ ((s[i].toNat:Nat):Int) 122) && (eqZ i 0 || ltZ ((s[i].toNat:Nat):Int) 48 || ltZ 57 ((s[i].toNat:Nat):Int)))) = true then _ else _)
   generalize ((s[i].toNat:Nat):Int) = b
   intro eb
   simp only [lenI_eq,lt_yes hi,if_true,eb,some_bind']
   cases hp:leZ 97 b <;> cases hq:leZ b 122 <;> cases hr:eqZ (i:Int) 0 <;> cases ht:ltZ b 48 <;> cases hv:ltZ 57 b <;> simp [-Int.natCast_add,notB,eb,hp,hq,hr,ht,hv,idxN hi hl (Nat.le_refl _)])
  (by unfold impl_IsName_L0; simp only [lenI_eq,lt_no,Bool.false_eq_true,if_false])]
 simp only [within_eq]
 generalize (List.range s.length).all (nameI s) = p
 cases p <;> simp
def actB (a:D_Activity) (r s:Int):Bool:=(a.2.2.1.all fun m => modeB m r s) && (nameB a.1 && inB a.2.1 0 3 && inB a.2.2.1.length 1 3)
theorem ActivityOk_spec (a:D_Activity) (r s:Int) (u:Unit) (h:Sm_Activity 1099511627776 a):spec_ActivityOk (a,r,s,u) () = some (actB a r s,()):=by
 have hl:=h.2.2.1.1
 unfold spec_ActivityOk actB
 simp only [lenI_eq]
 rw [allS (F:=spec_ActivityOk_L0) (fun i => ((i:Int),(a.2.2.1.length:Int),a.2.2.1,r,s,a,())) (0,(a.2.2.1.length:Int),a.2.2.1,r,s,a,()) a.2.2.1 (fun m => modeB m r s) (Sum.inl (false,(a.2.2.1.length:Int),(a.2.2.1.length:Int),a.2.2.1,r,s,a,())) (false,()) rfl hl
  (fun i hi => by
   unfold spec_ActivityOk_L0
   simp only [lt_yes hi,if_true,getI_lt hi,some_bind',ModeOk_spec _ _ _ _ (h.2.2.1.2 _ (List.getElem_mem hi)),idxN hi hl (Nat.le_refl _)]
   generalize modeB _ _ _ = p
   cases p <;> rfl)
  (by unfold spec_ActivityOk_L0; simp only [lt_no,Bool.false_eq_true,if_false])]
 cases hp:(a.2.2.1.all fun m => modeB m r s) <;> cases hq:nameB a.1 <;> cases ht:inB a.2.1 0 3 <;> cases hv:inB (a.2.2.1.length:Int) 1 3 <;> simp [IsName_spec _ _ h.1,l01In_eq,hq,ht,hv]
theorem ActivityOk_impl (a:D_Activity) (r s:Int) (u:Unit) (h:Sm_Activity 1099511627776 a):impl_ActivityOk (a,r,s,u) () = some (actB a r s,()):=by
 have hl:=h.2.2.1.1
 unfold impl_ActivityOk actB
 simp only [lenI_eq]
 rw [allS (F:=impl_ActivityOk_L0) (fun i => ((i:Int),(a.2.2.1.length:Int),a.2.2.1,r,s,a,())) (0,(a.2.2.1.length:Int),a.2.2.1,r,s,a,()) a.2.2.1 (fun m => modeB m r s) (Sum.inl (false,(a.2.2.1.length:Int),(a.2.2.1.length:Int),a.2.2.1,r,s,a,())) (false,()) rfl hl
  (fun i hi => by
   unfold impl_ActivityOk_L0
   simp only [lt_yes hi,if_true,getI_lt hi,some_bind',ModeOk_impl _ _ _ _ (h.2.2.1.2 _ (List.getElem_mem hi)),idxN hi hl (Nat.le_refl _)]
   generalize modeB _ _ _ = p
   cases p <;> rfl)
  (by unfold impl_ActivityOk_L0; simp only [lt_no,Bool.false_eq_true,if_false])]
 cases hp:(a.2.2.1.all fun m => modeB m r s) <;> cases hq:nameB a.1 <;> cases ht:inB a.2.1 0 3 <;> cases hv:inB (a.2.2.1.length:Int) 1 3 <;> simp [IsName_impl _ _ h.1,within_eq,hq,ht,hv]
theorem ActivityIndex_spec (p:D_Project) (s:List UInt8) (u:Unit) (hl:p.2.1.length <= 1099511627776):spec_ActivityIndex (p,s,u) () = some (idxOf (fun a => eqS a.1 s) p.2.1,()):=by
 unfold spec_ActivityIndex idxOf
 simp only [lenI_eq]
 rw [findS (F:=spec_ActivityIndex_L0) (fun i => ((i:Int),(p.2.1.length:Int),p.2.1,s,())) (0,(p.2.1.length:Int),p.2.1,s,()) p.2.1 (fun a => eqS a.1 s) (Sum.inl (false,(p.2.1.length:Int),(p.2.1.length:Int),p.2.1,s,())) (fun i => ((i:Int),())) rfl hl
  (fun i hi => by
   unfold spec_ActivityIndex_L0
   simp only [lt_yes hi,if_true,getI_lt hi,some_bind',idxN hi hl (Nat.le_refl _)]
   generalize eqS _ _ = q
   cases q <;> rfl)
  (by unfold spec_ActivityIndex_L0; simp only [lt_no,Bool.false_eq_true,if_false])]
 cases p.2.1.findIdx? (fun a => eqS a.1 s) <;> rfl
theorem IndexFunc_Act (l:List D_Activity) (f:(D_Activity × Unit) -> Option Bool) (q:D_Activity -> Bool) (u:Unit) (hl:l.length <= 1099511627776) (hf:∀ a ∈ l,f (a,()) = some (q a)):slices_IndexFunc_impl_Activity_impl_Activity (l,f,u) () = some (idxOf q l,()):=by
 unfold slices_IndexFunc_impl_Activity_impl_Activity idxOf
 simp only [lenI_eq]
 rw [findS (F:=slices_IndexFunc_impl_Activity_impl_Activity_L0) (fun i => ((i:Int),(l.length:Int),f,l,())) (0,(l.length:Int),f,l,()) l q (Sum.inl (false,(l.length:Int),(l.length:Int),f,l,())) (fun i => ((i:Int),())) rfl hl
  (fun i hi => by
   unfold slices_IndexFunc_impl_Activity_impl_Activity_L0
   simp only [lt_yes hi,if_true,getI_lt hi,some_bind',hf _ (List.getElem_mem hi),idxN hi hl (Nat.le_refl _)]
   generalize q _ = r
   cases r <;> rfl)
  (by unfold slices_IndexFunc_impl_Activity_impl_Activity_L0; simp only [lt_no,Bool.false_eq_true,if_false])]
 cases l.findIdx? q <;> rfl
theorem ActivityIndex_impl (p:D_Project) (s:List UInt8) (u:Unit) (hl:p.2.1.length <= 1099511627776):impl_ActivityIndex (p,s,u) () = some (idxOf (fun a => eqS a.1 s) p.2.1,()):=by
 unfold impl_ActivityIndex
 have e:=IndexFunc_Act p.2.1 (fun v0 => (Option.bind (impl_ActivityIndex_1 v0 (s,())) fun v1 => (some v1.1))) (fun a => eqS a.1 s) () hl (fun a _ => rfl)
 simp only [e,some_bind']
theorem IndexFunc_Link (l:List D_Link) (f:(D_Link × Unit) -> Option Bool) (q:D_Link -> Bool) (u:Unit) (hl:l.length <= 1099511627776) (hf:∀ a ∈ l,f (a,()) = some (q a)):slices_IndexFunc_impl_Link_impl_Link (l,f,u) () = some (idxOf q l,()):=by
 unfold slices_IndexFunc_impl_Link_impl_Link idxOf
 simp only [lenI_eq]
 rw [findS (F:=slices_IndexFunc_impl_Link_impl_Link_L0) (fun i => ((i:Int),(l.length:Int),f,l,())) (0,(l.length:Int),f,l,()) l q (Sum.inl (false,(l.length:Int),(l.length:Int),f,l,())) (fun i => ((i:Int),())) rfl hl
  (fun i hi => by
   unfold slices_IndexFunc_impl_Link_impl_Link_L0
   simp only [lt_yes hi,if_true,getI_lt hi,some_bind',hf _ (List.getElem_mem hi),idxN hi hl (Nat.le_refl _)]
   generalize q _ = r
   cases r <;> rfl)
  (by unfold slices_IndexFunc_impl_Link_impl_Link_L0; simp only [lt_no,Bool.false_eq_true,if_false])]
 cases l.findIdx? q <;> rfl
def rowB (row:List Int):Bool:=eqZ row.length 4 && row.all fun n => inB n 0 12
def resrB (r:D_Resource):Bool:=r.2.1.all rowB && (stepsB r.1 && (eqZ r.2.1.length 0 || eqZ r.2.1.length 4))
theorem ResourceOk_spec (r:D_Resource) (u:Unit) (h:Sm_Resource 1099511627776 r):spec_ResourceOk (r,u) () = some (resrB r,()):=by
 have hl:=h.2.1.1
 unfold spec_ResourceOk resrB
 simp only [lenI_eq]
 rw [allS (F:=spec_ResourceOk_L1) (fun i => ((i:Int),(r.2.1.length:Int),r.2.1,r,())) (0,(r.2.1.length:Int),r.2.1,r,()) r.2.1 rowB (Sum.inl (false,(r.2.1.length:Int),(r.2.1.length:Int),r.2.1,r,())) (false,()) rfl hl
  (fun i hi => by
   have hr:=(h.2.1.2 _ (List.getElem_mem hi)).1
   unfold spec_ResourceOk_L1 rowB
   simp only [lt_yes hi,if_true,getI_lt hi,some_bind']
   have hq0:eqZ (lenI r.2.1[i]) 4 = eqZ (r.2.1[i].length:Int) 4:=rfl
   rw [allS (F:=spec_ResourceOk_L0) (fun j => ((j:Int),(r.2.1[i].length:Int),r.2.1[i],(i:Int),(r.2.1.length:Int),r.2.1,r,())) (0,lenI r.2.1[i],r.2.1[i],(i:Int),(r.2.1.length:Int),r.2.1,r,()) r.2.1[i] (fun n => inB n 0 12) (Sum.inl (false,(r.2.1[i].length:Int),(r.2.1[i].length:Int),r.2.1[i],(i:Int),(r.2.1.length:Int),r.2.1,r,())) (false,()) rfl hr
    (fun j hj => by
     unfold spec_ResourceOk_L0
     simp only [lt_yes hj,if_true,getI_lt hj,some_bind',l01In_eq,idxN hj hr (Nat.le_refl _)]
     generalize inB _ 0 12 = p
     cases p <;> rfl)
    (by unfold spec_ResourceOk_L0; simp only [lt_no,Bool.false_eq_true,if_false])]
   cases hp:(r.2.1[i].all fun n => inB n 0 12) <;> cases hq:eqZ (r.2.1[i].length:Int) 4 <;> simp [-Int.natCast_add,notB,hq0,hq,idxN hi hl (Nat.le_refl _)])
  (by unfold spec_ResourceOk_L1; simp only [lt_no,Bool.false_eq_true,if_false])]
 cases hp:r.2.1.all rowB <;> cases hq:stepsB r.1 <;> cases ht:eqZ (r.2.1.length:Int) 0 <;> cases hv:eqZ (r.2.1.length:Int) 4 <;> simp [StepsOk_spec _ _ h.1.1,lenI_eq,hq,ht,hv]
theorem ResourceOk_impl (r:D_Resource) (u:Unit) (h:Sm_Resource 1099511627776 r):impl_ResourceOk (r,u) () = some (resrB r,()):=by
 have hl:=h.2.1.1
 unfold impl_ResourceOk resrB
 simp only [lenI_eq]
 rw [allS (F:=impl_ResourceOk_L1) (fun i => ((i:Int),(r.2.1.length:Int),r.2.1,r,())) (0,(r.2.1.length:Int),r.2.1,r,()) r.2.1 rowB (Sum.inl (false,(r.2.1.length:Int),(r.2.1.length:Int),r.2.1,r,())) (false,()) rfl hl
  (fun i hi => by
   have hr:=(h.2.1.2 _ (List.getElem_mem hi)).1
   unfold impl_ResourceOk_L1 rowB
   simp only [lt_yes hi,if_true,getI_lt hi,some_bind']
   have hq0:eqZ (lenI r.2.1[i]) 4 = eqZ (r.2.1[i].length:Int) 4:=rfl
   rw [allS (F:=impl_ResourceOk_L0) (fun j => ((j:Int),(r.2.1[i].length:Int),r.2.1[i],(i:Int),(r.2.1.length:Int),r.2.1,r,())) (0,lenI r.2.1[i],r.2.1[i],(i:Int),(r.2.1.length:Int),r.2.1,r,()) r.2.1[i] (fun n => inB n 0 12) (Sum.inl (false,(r.2.1[i].length:Int),(r.2.1[i].length:Int),r.2.1[i],(i:Int),(r.2.1.length:Int),r.2.1,r,())) (false,()) rfl hr
    (fun j hj => by
     unfold impl_ResourceOk_L0
     simp only [lt_yes hj,if_true,getI_lt hj,some_bind',within_eq,idxN hj hr (Nat.le_refl _)]
     generalize inB _ 0 12 = p
     cases p <;> rfl)
    (by unfold impl_ResourceOk_L0; simp only [lt_no,Bool.false_eq_true,if_false])]
   cases hp:(r.2.1[i].all fun n => inB n 0 12) <;> cases hq:eqZ (r.2.1[i].length:Int) 4 <;> simp [-Int.natCast_add,notB,hq0,hq,idxN hi hl (Nat.le_refl _)])
  (by unfold impl_ResourceOk_L1; simp only [lt_no,Bool.false_eq_true,if_false])]
 cases hp:r.2.1.all rowB <;> cases hq:stepsB r.1 <;> cases ht:eqZ (r.2.1.length:Int) 0 <;> cases hv:eqZ (r.2.1.length:Int) 4 <;> simp [StepsOk_impl _ _ h.1.1,lenI_eq,hq,ht,hv]
open Go.Abs
set_option linter.unusedVariables false
set_option linter.unusedSimpArgs false
def actI (p:D_Project) (i:Nat):Bool:=match p.2.1[i]? with
 | some a => actB a (lenI p.2.2.2.1) (lenI p.2.2.2.2.1) && eqZ (idxOf (fun b => eqS b.1 a.1) p.2.1) i
 | none => true
def linkB (n:Int) (k:D_Link):Bool:=inB k.1 0 (subZ .i64 n 1) && inB k.2.1 0 (subZ .i64 n 1) && notB (eqZ k.1 k.2.1) && inB k.2.2.2.1 (-60) 60
def projB (p:D_Project):Bool:=(inB p.1 1 60 && inB (lenI p.2.1) 1 6 && notB (ltZ 3 (lenI p.2.2.2.1)) && notB (ltZ 2 (lenI p.2.2.2.2.1)) && notB (ltZ 12 (lenI p.2.2.1))) &&
 (List.range p.2.1.length).all (actI p) && p.2.2.2.1.all resrB && (p.2.2.2.2.1.all fun n => inB n 0 100) && p.2.2.1.all (linkB (lenI p.2.1))
theorem ProjectOk_spec (p:D_Project) (u:Unit) (h:Sm_Project 1099511627776 p):spec_ProjectOk (p,u) () = some (projB p,()):=by
 obtain ⟨-,⟨ha,hA⟩,⟨hk,-⟩,⟨hr,hR⟩,⟨hs,-⟩,-⟩:=h
 have l0:=fun A:Type => allIS (A:=A) (F:=spec_ProjectOk_L0) (fun i => ((i:Int),lenI p.2.1,p.2.1,p,lenI p.2.1,())) (0,lenI p.2.1,p.2.1,p,lenI p.2.1,()) p.2.1.length (actI p) (Sum.inl (false,lenI p.2.1,lenI p.2.1,p.2.1,p,lenI p.2.1,())) (false,()) rfl ha
  (fun i hi => by
   unfold spec_ProjectOk_L0 actI
   simp only [lenI_eq,lt_yes hi,if_true,getI_lt hi,some_bind',List.getElem?_eq_getElem hi]
   simp only [ActivityOk_spec _ _ _ _ (hA _ (List.getElem_mem hi)),some_bind',ActivityIndex_spec _ _ _ ha,idxN hi ha (Nat.le_refl _)]
   cases hp:actB p.2.1[i] (p.2.2.2.1.length:Int) (p.2.2.2.2.1.length:Int) <;> cases hq:eqZ (idxOf (fun b => eqS b.1 p.2.1[i].1) p.2.1) (i:Int) <;> simp [-Int.natCast_add,notB,hq,idxN hi ha (Nat.le_refl _)])
  (by unfold spec_ProjectOk_L0; simp only [lenI_eq,lt_no,Bool.false_eq_true,if_false])
 have l1:=fun A:Type => allS (A:=A) (F:=spec_ProjectOk_L1) (fun i => ((i:Int),lenI p.2.2.2.1,p.2.2.2.1,p,lenI p.2.1,())) (0,lenI p.2.2.2.1,p.2.2.2.1,p,lenI p.2.1,()) p.2.2.2.1 resrB (Sum.inl (false,lenI p.2.2.2.1,lenI p.2.2.2.1,p.2.2.2.1,p,lenI p.2.1,())) (false,()) rfl hr
  (fun i hi => by
   unfold spec_ProjectOk_L1
   simp only [lenI_eq,lt_yes hi,if_true,getI_lt hi,some_bind',ResourceOk_spec _ _ (hR _ (List.getElem_mem hi)),idxN hi hr (Nat.le_refl _)]
   cases hp:resrB p.2.2.2.1[i] <;> simp [-Int.natCast_add,notB])
  (by unfold spec_ProjectOk_L1; simp only [lenI_eq,lt_no,Bool.false_eq_true,if_false])
 have l2:=fun A:Type => allS (A:=A) (F:=spec_ProjectOk_L2) (fun i => ((i:Int),lenI p.2.2.2.2.1,p.2.2.2.2.1,p,lenI p.2.1,())) (0,lenI p.2.2.2.2.1,p.2.2.2.2.1,p,lenI p.2.1,()) p.2.2.2.2.1 (fun n => inB n 0 100) (Sum.inl (false,lenI p.2.2.2.2.1,lenI p.2.2.2.2.1,p.2.2.2.2.1,p,lenI p.2.1,())) (false,()) rfl hs
  (fun i hi => by
   unfold spec_ProjectOk_L2
   simp only [lenI_eq,lt_yes hi,if_true,getI_lt hi,some_bind',l01In_eq,idxN hi hs (Nat.le_refl _)]
   cases hp:inB p.2.2.2.2.1[i] 0 100 <;> simp [-Int.natCast_add,notB])
  (by unfold spec_ProjectOk_L2; simp only [lenI_eq,lt_no,Bool.false_eq_true,if_false])
 have l3:=fun A:Type => allS (A:=A) (F:=spec_ProjectOk_L3) (fun i => ((i:Int),lenI p.2.2.1,p.2.2.1,lenI p.2.1,())) (0,lenI p.2.2.1,p.2.2.1,lenI p.2.1,()) p.2.2.1 (linkB (lenI p.2.1)) (Sum.inl (false,lenI p.2.2.1,lenI p.2.2.1,p.2.2.1,lenI p.2.1,())) (false,()) rfl hk
  (fun i hi => by
   unfold spec_ProjectOk_L3 linkB
   generalize lenI p.2.1 = n
   simp only [lenI_eq,lt_yes hi,if_true,getI_lt hi,some_bind',l01In_eq]
   cases h1:inB p.2.2.1[i].1 0 (subZ .i64 n 1) <;> cases h2:inB p.2.2.1[i].2.1 0 (subZ .i64 n 1) <;> cases h3:eqZ p.2.2.1[i].1 p.2.2.1[i].2.1 <;> cases h4:inB p.2.2.1[i].2.2.2.1 (-60) 60 <;>
    simp [-Int.natCast_add,notB,l01In_eq,h2,h3,h4,idxN hi hk (Nat.le_refl _)])
  (by unfold spec_ProjectOk_L3; simp only [lenI_eq,lt_no,Bool.false_eq_true,if_false])
 unfold spec_ProjectOk projB
 simp only [l01In_eq,some_bind']
 cases h1:inB p.1 1 60 with
 | false => simp [notB]
 | true =>
 cases h2:inB (lenI p.2.1) 1 6 with
 | false => simp [notB,l01In_eq,h2]
 | true =>
 cases h3:ltZ 3 (lenI p.2.2.2.1) with
 | true => simp [notB,l01In_eq,h2,h3]
 | false =>
 cases h4:ltZ 2 (lenI p.2.2.2.2.1) with
 | true => simp [notB,l01In_eq,h2,h3,h4]
 | false =>
 cases h5:ltZ 12 (lenI p.2.2.1) with
 | true => simp [notB,l01In_eq,h2,h3,h4,h5]
 | false =>
 simp only [notB_true,notB_false,Bool.false_eq_true,if_false,h2,h3,h4,h5,some_bind',l0]
 cases k0:(List.range p.2.1.length).all (actI p) with
 | false => simp
 | true =>
 simp only [if_true,some_bind',l1]
 cases k1:p.2.2.2.1.all resrB with
 | false => simp
 | true =>
 simp only [if_true,some_bind',l2]
 cases k2:(p.2.2.2.2.1.all fun n => inB n 0 100) with
 | false => simp
 | true =>
 simp only [if_true,some_bind',l3]
 cases k3:p.2.2.1.all (linkB (lenI p.2.1)) with
 | false => simp
 | true => simp
theorem hasActivity_eq (p:D_Project) (a:Int) (u:Unit):impl_Project_hasActivity (p,a,u) () = some (inB a 0 (subZ .i64 (lenI p.2.1) 1),()):=by
 unfold impl_Project_hasActivity
 simp only [within_eq,some_bind']
theorem linkOk_eq (p:D_Project) (k:D_Link) (u:Unit):impl_Project_linkOk (p,k,u) () = some (linkB (lenI p.2.1) k,()):=by
 unfold impl_Project_linkOk linkB
 simp only [hasActivity_eq,within_eq,some_bind']
 generalize lenI p.2.1 = n
 cases h1:inB k.1 0 (subZ .i64 n 1) <;> cases h2:inB k.2.1 0 (subZ .i64 n 1) <;> cases h3:eqZ k.1 k.2.1 <;> cases h4:inB k.2.2.2.1 (-60) 60 <;> simp [notB]
theorem all_notany {E:Type} (q:E -> Bool) (l:List E):notB (l.any fun k => notB (q k)) = l.all q:=by
 induction l with
 | nil => rfl
 | cons x l ih =>
  simp only [List.any_cons,List.all_cons,<- ih]
  cases q x <;> simp [notB]
theorem ProjectOk_impl (p:D_Project) (u:Unit) (h:Sm_Project 1099511627776 p):impl_ProjectOk (p,u) () = some (projB p,()):=by
 obtain ⟨-,⟨ha,hA⟩,⟨hk,-⟩,⟨hr,hR⟩,⟨hs,-⟩,-⟩:=h
 have l0:=fun A:Type => allIS (A:=A) (F:=impl_ProjectOk_L0) (fun i => ((i:Int),lenI p.2.1,p.2.1,p,())) (0,lenI p.2.1,p.2.1,p,()) p.2.1.length (actI p) (Sum.inl (false,lenI p.2.1,lenI p.2.1,p.2.1,p,())) (false,()) rfl ha
  (fun i hi => by
   unfold impl_ProjectOk_L0 actI
   simp only [lenI_eq,lt_yes hi,if_true,getI_lt hi,some_bind',List.getElem?_eq_getElem hi]
   simp only [ActivityOk_impl _ _ _ _ (hA _ (List.getElem_mem hi)),some_bind',ActivityIndex_impl _ _ _ ha,idxN hi ha (Nat.le_refl _)]
   cases hp:actB p.2.1[i] (p.2.2.2.1.length:Int) (p.2.2.2.2.1.length:Int) <;> cases hq:eqZ (idxOf (fun b => eqS b.1 p.2.1[i].1) p.2.1) (i:Int) <;> simp [-Int.natCast_add,notB,hq,idxN hi ha (Nat.le_refl _)])
  (by unfold impl_ProjectOk_L0; simp only [lenI_eq,lt_no,Bool.false_eq_true,if_false])
 have l1:=fun A:Type => allS (A:=A) (F:=impl_ProjectOk_L1) (fun i => ((i:Int),lenI p.2.2.2.1,p.2.2.2.1,p,())) (0,lenI p.2.2.2.1,p.2.2.2.1,p,()) p.2.2.2.1 resrB (Sum.inl (false,lenI p.2.2.2.1,lenI p.2.2.2.1,p.2.2.2.1,p,())) (false,()) rfl hr
  (fun i hi => by
   unfold impl_ProjectOk_L1
   simp only [lenI_eq,lt_yes hi,if_true,getI_lt hi,some_bind',ResourceOk_impl _ _ (hR _ (List.getElem_mem hi)),idxN hi hr (Nat.le_refl _)]
   cases hp:resrB p.2.2.2.1[i] <;> simp [-Int.natCast_add,notB])
  (by unfold impl_ProjectOk_L1; simp only [lenI_eq,lt_no,Bool.false_eq_true,if_false])
 have l2:=fun A:Type => allS (A:=A) (F:=impl_ProjectOk_L2) (fun i => ((i:Int),lenI p.2.2.2.2.1,p.2.2.2.2.1,p,())) (0,lenI p.2.2.2.2.1,p.2.2.2.2.1,p,()) p.2.2.2.2.1 (fun n => inB n 0 100) (Sum.inl (false,lenI p.2.2.2.2.1,lenI p.2.2.2.2.1,p.2.2.2.2.1,p,())) (false,()) rfl hs
  (fun i hi => by
   unfold impl_ProjectOk_L2
   simp only [lenI_eq,lt_yes hi,if_true,getI_lt hi,some_bind',within_eq,idxN hi hs (Nat.le_refl _)]
   cases hp:inB p.2.2.2.2.1[i] 0 100 <;> simp [-Int.natCast_add,notB])
  (by unfold impl_ProjectOk_L2; simp only [lenI_eq,lt_no,Bool.false_eq_true,if_false])
 have l3:=IndexFunc_Link p.2.2.1 (fun v35 => (Option.bind (impl_ProjectOk_1 v35 (p,())) fun v36 => (some v36.1))) (fun k => notB (linkB (lenI p.2.1) k)) () hk (fun a _ => by
  unfold impl_ProjectOk_1
  simp only [linkOk_eq,some_bind'])
 unfold impl_ProjectOk projB
 simp only [within_eq,some_bind']
 cases h1:inB p.1 1 60 with
 | false => simp [notB]
 | true =>
 cases h2:inB (lenI p.2.1) 1 6 with
 | false => simp [notB,within_eq,h2]
 | true =>
 cases h3:ltZ 3 (lenI p.2.2.2.1) with
 | true => simp [notB,within_eq,h2,h3]
 | false =>
 cases h4:ltZ 2 (lenI p.2.2.2.2.1) with
 | true => simp [notB,within_eq,h2,h3,h4]
 | false =>
 cases h5:ltZ 12 (lenI p.2.2.1) with
 | true => simp [notB,within_eq,h2,h3,h4,h5]
 | false =>
 simp only [notB_true,notB_false,Bool.false_eq_true,if_false,h2,h3,h4,h5,some_bind',l0]
 cases k0:(List.range p.2.1.length).all (actI p) with
 | false => simp
 | true =>
 simp only [if_true,some_bind',l1]
 cases k1:p.2.2.2.1.all resrB with
 | false => simp
 | true =>
 simp only [if_true,some_bind',l2]
 cases k2:(p.2.2.2.2.1.all fun n => inB n 0 100) with
 | false => simp
 | true =>
 simp only [if_true,some_bind']
 unfold slices_ContainsFunc_impl_Link_impl_Link
 simp only [l3,some_bind',idxOf_any,all_notany,Bool.true_and,Bool.and_true,notB_false]
theorem lenI_sub {α:Type} (l:List α) (h:l.length <= 1099511627776):subZ .i64 (lenI l) 1 = (l.length:Int) - 1:=by
 rw [lenI_eq,subZ64 (by omega) (by omega)]
/-- a number that is a place in a list -/
theorem inB_place {α:Type} {l:List α} (h:l.length <= 1099511627776) {x:Int} (hx:inB x 0 (subZ .i64 (lenI l) 1) = true):∃ i:Nat,x = (i:Int) /\ i < l.length:=by
 rw [lenI_sub l h,inB_iff] at hx
 exact ⟨x.toNat,by omega,by omega⟩
end Go.Proofs.YteggmejnpcfalaaGreat
