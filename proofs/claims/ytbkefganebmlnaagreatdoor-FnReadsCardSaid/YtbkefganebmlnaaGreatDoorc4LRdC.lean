/-
  Plain laws: numbers in a row, lists that hold a number, sets, domains (several small texts in one). Condition: no list is longer than 2 to the 40.
-/
import Derived.Test.YtbkefganebmlnaaGreatDoorc4LRdA
namespace Go.Proofs.YtbkefganebmlnaaGreatDoor
open Go.Abs
set_option linter.unusedVariables false
set_option linter.unusedSimpArgs false
/-- a list of small numbers -/
def SmallL (l:List Int):Prop:=l.length <= 16 /\ ∀ x ∈ l,0 <= x /\ x <= 60
def Hf (l:List Int):List (List UInt8):=l.map Lib.itoa
def B9 (l:List Int):List UInt8:=if l = [] then [45] else Lib.join (Hf l) [44]
theorem Agv {x:Int} (h:0 <= x):∃ c r,Lib.itoa x = c :: r /\ isDig c:=by
  have e:Lib.itoa x = Lib.decDigits x.toNat:=by
    unfold Lib.itoa
    rw [if_neg (by omega)]
    try rfl
  rw [e]
  cases hd:Lib.decDigits x.toNat with
  | nil => exact absurd hd (digs_ne _)
  | cons c r => exact ⟨c,r,rfl,(Nr x.toNat).1 c (by rw [hd]; simp)⟩
theorem Ky {xs:List (List UInt8)} {b:UInt8} {B n:Nat} (hn:xs.length <= n) (h:∀ x ∈ xs,x.length <= B):(Lib.join xs [b]).length <= n * (B + 1):=by
  have h1:=Ve (sep:=[b]) (B:=B + 1) (xs:=xs) fun x hx => by have:=h x hx; simp; omega
  exact Nat.le_trans h1 (Nat.mul_le_mul_right _ hn)
theorem Vi {b c:UInt8}:∀ {xs:List (List UInt8)},c ∈ Lib.join xs [b] -> c = b \/ ∃ x ∈ xs,c ∈ x
  | [],h => by simp [Lib.join_nil] at h
  | x :: xs,h => by
    rw [Lib.join_cons] at h
    simp only [Lib.joinTail,List.mem_append,List.mem_flatten,List.mem_map] at h
    rcases h with h | ⟨l,⟨y,hy,rfl⟩,hc⟩
    · exact .inr ⟨x,by simp,h⟩
    · simp only [List.cons_append,List.nil_append,List.mem_cons] at hc
      rcases hc with h | h
      · exact .inl h
      · exact .inr ⟨y,List.mem_cons_of_mem _ hy,h⟩
theorem X0 {n:Int} {c:UInt8} (h:c ∈ Lib.itoa n):c = 45 \/ isDig c:=by
  unfold Lib.itoa at h
  split at h
  · rcases List.mem_cons.1 h with h | h
    · exact .inl h
    · exact .inr ((Nr _).1 _ h)
  · exact .inr ((Nr _).1 _ h)
theorem Adx {l:List Int} {c:UInt8} (h:c ∈ B9 l):c = 44 \/ c = 45 \/ isDig c:=by
  unfold B9 at h
  split at h
  · simp at h
    exact .inr (.inl h)
  · rcases Vi h with h | ⟨x,hx,h⟩
    · exact .inl h
    · obtain ⟨n,-,rfl⟩:=List.mem_map.1 hx
      exact .inr (X0 h)
theorem Rh {n:Int} {b:UInt8} (h1:b ≠ 45) (h2:¬ isDig b):b ∉ Lib.itoa n:=fun h => by
  rcases X0 h with h | h
  · exact h1 h
  · exact h2 h
theorem ints_no {l:List Int} {b:UInt8} (h0:b ≠ 44) (h1:b ≠ 45) (h2:¬ isDig b):b ∉ B9 l:=fun h => by
  rcases Adx h with h | h | h
  · exact h0 h
  · exact h1 h
  · exact h2 h
theorem not_dig {b:UInt8} (h:b.toNat < 48 \/ 57 < b.toNat):¬ isDig b:=fun h2 => by
  unfold isDig at h2
  omega
theorem L5 (l:List Int):(Hf l).length = l.length:=by simp [Hf]
theorem Yi {l:List Int} (h:SmallL l):∀ x ∈ Hf l,x.length <= 7:=fun x hx => by
  obtain ⟨n,hn,rfl⟩:=List.mem_map.1 hx
  have:=h.2 n hn
  exact Ck (by omega) (by omega)
theorem Pv {l:List Int} (h:SmallL l):(B9 l).length <= 128:=by
  unfold B9
  split
  · simp
  · exact Ky (n:=16) (B:=7) (by rw [L5]; exact h.1) (Yi h)
theorem ints_ne {l:List Int}:B9 l ≠ []:=by
  unfold B9
  split
  · simp
  · rename_i hl
    cases l with
    | nil => exact absurd rfl hl
    | cons x xs => exact Acz (itoa_ne x)
theorem Qk {l:List Int} (h:SmallL l) (u:Unit):Dg (l,u) () = some (B9 l,()):=by
  have hl:=h.1
  obtain ⟨o,ho,rfl⟩:=A5 (A:=G5) (F:=It) l.length
    (fun j t => t = ((j:Int),((l.length:Int),(l,((Hf l).take j,())))))
    (fun o => o = .exit (Sum.inl (false,((l.length:Int),((l.length:Int),(l,(Hf l,())))))))
    (fun i s hi hI => by
      subst hI
      unfold It
      by_cases hlt:i < l.length
      · have hx:=h.2 l[i] (List.getElem_mem hlt)
        have hne:eqS (Lib.itoa l[i]) [] = false:=by
          cases he:eqS (Lib.itoa l[i]) [] with
          | false => rfl
          | true => exact absurd (by simpa [eqS] using he) (itoa_ne l[i])
        have ht:(Hf l).take (i + 1) = (Hf l).take i ++ [Lib.itoa l[i]]:=by
          rw [List.take_add_one]
          simp [Hf,List.getElem?_eq_getElem hlt]
        simp only [lt_yes hlt,if_true,getI_lt hlt,Ad,Ew,fmtV_in (n:=l[i]) (by omega) (by omega),hne,Bool.false_eq_true,if_false,idxN hlt (by omega:l.length <= 1099511627776) (Nat.le_refl _)]
        rw [add_ll (by have:=List.length_take_le i (Hf l); simp; omega)]
        exact ⟨_,rfl,hlt,by rw [ht]⟩
      · obtain rfl:i = l.length:=by omega
        simp only [lt_no,Bool.false_eq_true,if_false]
        exact ⟨_,rfl,by rw [List.take_of_length_le (by rw [L5]; exact Nat.le_refl _)]⟩) (s:=(0,((l.length:Int),(l,([],()))))) (by simp) (by unfold big; omega)
  unfold Dg B9
  simp only [lenI_eq,ho,Ad,L5]
  cases l with
  | nil => rfl
  | cons x xs =>
    have e0:eqZ ((x :: xs).length:Int) 0 = false:=by rw [eqZ_dec,decide_eq_false_iff_not]; simp only [List.length_cons]; omega
    simp only [e0,Bool.false_eq_true,if_false,Q5 (Hf (x :: xs)) [44] () (by rw [L5]; omega) (fun w hw => by have:=Yi h w hw; omega) (by simp),Ad]
    rw [if_neg (by simp)]
theorem R5 {l:List Int} (h:SmallL l) (u:Unit):Dj (B9 l,u) () = some ((l,(true,())),()):=by
  have hl:=h.1
  have htl:=Pv h
  unfold Dj
  cases hc:l with
  | nil => rfl
  | cons x xs =>
    rw [<- hc]
    have hx:=h.2 x (by rw [hc]; simp)
    have he:eqS (B9 l) [45] = false:=by
      cases he:eqS (B9 l) [45] with
      | false => rfl
      | true =>
        have e:B9 l = [45]:=by simpa [eqS] using he
        obtain ⟨c,r,hcr,hd⟩:=Agv hx.1
        unfold B9 at e
        rw [if_neg (by rw [hc]; simp),hc] at e
        simp only [Hf,List.map_cons,Lib.join_cons,hcr,List.cons_append,List.cons.injEq] at e
        rw [e.1] at hd
        exact absurd hd (not_dig (by decide))
    have hsp:=L9 (B9 l) 44 () (by omega)
    rw [show splR 44 (B9 l) = Hf l from ?_] at hsp
    · obtain ⟨o,ho,rfl⟩:=A5 (A:=H9) (F:=Jl) l.length
        (fun j t => t = ((j:Int),((l.length:Int),(Hf l,(l.take j,())))))
        (fun o => o = .exit (Sum.inl (false,((l.length:Int),((l.length:Int),(Hf l,(l,())))))))
        (fun i s hi hI => by
          subst hI
          unfold Jl
          by_cases hlt:i < l.length
          · have hx:=h.2 l[i] (List.getElem_mem hlt)
            have gw:getI (Hf l) (i:Int) = some (Lib.itoa l[i]):=by rw [getI_lt (by rw [L5]; exact hlt)]; simp [Hf]
            have p1:=Dp (Lib.itoa l[i]) () (by have:=Ck (n:=l[i]) (by omega) (by omega); omega)
            rw [pI_itoa (by omega) (by omega)] at p1
            have ht:l.take (i + 1) = l.take i ++ [l[i]]:=by
              rw [List.take_add_one,List.getElem?_eq_getElem hlt]
              rfl
            have a1:addI (l.take i) [l[i]] = some (l.take (i + 1)):=by rw [ht]; exact addI_ok (by rw [room_eq]; have:=List.length_take_le i l; simp; omega)
            simp only [lt_yes hlt,if_true,gw,Ad,p1,A9,Bool.false_eq_true,if_false,a1,idxN hlt (by omega:l.length <= 1099511627776) (Nat.le_refl _)]
            exact ⟨_,rfl,hlt,rfl⟩
          · obtain rfl:i = l.length:=by omega
            simp only [lt_no,Bool.false_eq_true,if_false]
            exact ⟨_,rfl,by rw [List.take_length]⟩) (s:=(0,((l.length:Int),(Hf l,([],()))))) (by simp) (by unfold big; omega)
      simp only [he,Bool.false_eq_true,if_false,hsp,Ad,lenI_eq,L5,ho]
    · unfold B9
      rw [if_neg (by rw [hc]; simp)]
      refine Oa (by rw [hc]; simp [Hf]) fun w hw => ?_
      obtain ⟨n,-,rfl⟩:=List.mem_map.1 hw
      exact Rh (by decide) (not_dig (by decide))
open Go.Abs
set_option linter.unusedVariables false
set_option linter.unusedSimpArgs false
def Id (s:D_Step):List UInt8:=Lib.itoa s.1 ++ 58 :: Lib.itoa s.2.1
def C7 (l:List D_Step):List UInt8:=Lib.join (l.map Id) [44]
structure StepsG (l:List D_Step):Prop where
  ok:stepsB l = true
  ne:l ≠ []
  len:l.length <= 8
  s:∀ x ∈ l,(0 <= x.1 /\ x.1 <= 60) /\ (0 <= x.2.1 /\ x.2.1 <= 20)
theorem steps_g {l:List D_Step} (h:stepsB l = true):StepsG l:=by
  have h0:=h
  unfold stepsB at h
  simp only [Bool.and_eq_true,List.all_eq_true,inB_iff] at h
  refine ⟨h0,fun e => by subst e; simp at h,by omega,fun x hx => ?_⟩
  obtain ⟨i,hi,rfl⟩:=List.mem_iff_getElem.1 hx
  have h1:=h.1.1 i (by simpa using hi)
  unfold stepI at h1
  rw [List.getElem?_eq_getElem hi] at h1
  simp only [Bool.and_eq_true,inB_iff] at h1
  exact h1.1
theorem Up {s:D_Step} (h:(0 <= s.1 /\ s.1 <= 60) /\ (0 <= s.2.1 /\ s.2.1 <= 20)):(Id s).length <= 15:=by
  have l2:=Ck (n:=s.1) (by omega) (by omega)
  have l3:=Ck (n:=s.2.1) (by omega) (by omega)
  unfold Id
  simp only [List.length_append,List.length_cons]
  omega
theorem V3 {l:List D_Step} (h:StepsG l):(C7 l).length <= 128:=
  Ky (n:=8) (B:=15) (by simp; exact h.len) fun x hx => by
    obtain ⟨s,hs,rfl⟩:=List.mem_map.1 hx
    exact Up (h.s s hs)
theorem Vy {s:D_Step} {b:UInt8} (h1:b ≠ 45) (h2:b ≠ 58) (h3:¬ isDig b):b ∉ Id s:=fun h => by
  unfold Id at h
  simp only [List.mem_append,List.mem_cons] at h
  rcases h with h | h | h
  · exact Rh h1 h3 h
  · exact h2 h
  · exact Rh h1 h3 h
theorem Vb {l:List D_Step} {b:UInt8} (h0:b ≠ 44) (h1:b ≠ 45) (h2:b ≠ 58) (h3:¬ isDig b):b ∉ C7 l:=fun h => by
  rcases Vi h with h | ⟨x,hx,h⟩
  · exact h0 h
  · obtain ⟨s,-,rfl⟩:=List.mem_map.1 hx
    exact Vy h1 h2 h3 h
theorem Zp {l:List D_Step} (h:StepsG l) (u:Unit):Gw (l,u) () = some (C7 l,()):=by
  have hl:=h.len
  obtain ⟨o,ho,rfl⟩:=A5 (A:=Gd) (F:=Hx) l.length
    (fun j t => t = ((j:Int),((l.length:Int),(l,((l.map Id).take j,())))))
    (fun o => o = .exit (Sum.inl (false,((l.length:Int),((l.length:Int),(l,(l.map Id,())))))))
    (fun i s hi hI => by
      subst hI
      unfold Hx
      by_cases hlt:i < l.length
      · have hx:=h.s l[i] (List.getElem_mem hlt)
        have l2:=Ck (n:=l[i].1) (by omega) (by omega)
        have l3:=Ck (n:=l[i].2.1) (by omega) (by omega)
        have ht:(l.map Id).take (i + 1) = (l.map Id).take i ++ [Lib.itoa l[i].1 ++ [58] ++ Lib.itoa l[i].2.1]:=by
          rw [List.take_add_one]
          simp [Id,List.getElem?_eq_getElem hlt]
        simp only [lt_yes hlt,if_true,getI_lt hlt,Ad,Ew,fmtV_in (n:=l[i].1) (by omega) (by omega),fmtV_in (n:=l[i].2.1) (by omega) (by omega),idxN hlt (by omega:l.length <= 1099511627776) (Nat.le_refl _)]
        rw [ad8 (by simp; omega)]
        simp only [Ad]
        rw [ad8 (by simp; omega)]
        simp only [Ad]
        rw [add_ll (by have:=List.length_take_le i (l.map Id); simp; omega)]
        exact ⟨_,rfl,hlt,by rw [ht]⟩
      · obtain rfl:i = l.length:=by omega
        simp only [lt_no,Bool.false_eq_true,if_false]
        exact ⟨_,rfl,by rw [List.take_of_length_le (by simp)]⟩) (s:=(0,((l.length:Int),(l,([],()))))) (by simp) (by unfold big; omega)
  unfold Gw
  simp only [Ql l () (by omega),h.ok,Ad,A9,Bool.false_eq_true,if_false,lenI_eq,ho,Q5 (l.map Id) [44] () (by simp; omega) (fun w hw => by
    obtain ⟨s,hs,rfl⟩:=List.mem_map.1 hw
    have:=Up (h.s s hs)
    omega) (by simp)]
  rfl
theorem Aak {l:List D_Step} (h:StepsG l) (u:Unit):E0 (C7 l,u) () = some ((l,(true,())),()):=by
  have hl:=h.len
  have htl:=V3 h
  have hsp:=L9 (C7 l) 44 () (by omega)
  rw [show splR 44 (C7 l) = l.map Id from Oa (by simp [h.ne]) fun w hw => by
    obtain ⟨s,-,rfl⟩:=List.mem_map.1 hw
    exact Vy (by decide) (by decide) (not_dig (by decide))] at hsp
  obtain ⟨o,ho,rfl⟩:=A5 (A:=G4) (F:=Is) l.length
    (fun j t => t = ((j:Int),((l.length:Int),(l.map Id,(l.take j,())))))
    (fun o => o = .exit (Sum.inl (false,((l.length:Int),((l.length:Int),(l.map Id,(l,())))))))
    (fun i s hi hI => by
      subst hI
      unfold Is
      by_cases hlt:i < l.length
      · have hx:=h.s l[i] (List.getElem_mem hlt)
        have l2:=Ck (n:=l[i].1) (by omega) (by omega)
        have l3:=Ck (n:=l[i].2.1) (by omega) (by omega)
        have gw:getI (l.map Id) (i:Int) = some (Lib.itoa l[i].1 ++ 58 :: Lib.itoa l[i].2.1):=by rw [getI_lt (by simp; exact hlt)]; simp [Id]
        have c1:=Cut_eq (w:=Lib.itoa l[i].1) (r:=Lib.itoa l[i].2.1) (c:=58) (Rh (by decide) (not_dig (by decide))) (by omega) ()
        have p1:=Dp (Lib.itoa l[i].1) () (by omega)
        have p2:=Dp (Lib.itoa l[i].2.1) () (by omega)
        rw [pI_itoa (by omega) (by omega)] at p1 p2
        have ht:l.take (i + 1) = l.take i ++ [(l[i].1,(l[i].2.1,()))]:=by
          rw [List.take_add_one,List.getElem?_eq_getElem hlt]
          rfl
        have a1:addI (l.take i) [(l[i].1,(l[i].2.1,()))] = some (l.take (i + 1)):=by rw [ht]; exact addI_ok (by rw [room_eq]; have:=List.length_take_le i l; simp; omega)
        simp only [lt_yes hlt,if_true,gw,Ad,c1,p1,p2,A9,Bool.false_eq_true,if_false,a1,idxN hlt (by omega:l.length <= 1099511627776) (Nat.le_refl _)]
        exact ⟨_,rfl,hlt,rfl⟩
      · obtain rfl:i = l.length:=by omega
        simp only [lt_no,Bool.false_eq_true,if_false]
        exact ⟨_,rfl,by rw [List.take_length]⟩) (s:=(0,((l.length:Int),(l.map Id,([],()))))) (by simp) (by unfold big; omega)
  unfold E0
  simp only [hsp,Ad,lenI_eq,List.length_map,ho,Ql l () (by omega),h.ok,A9,Bool.false_eq_true,if_false]
def Fi (m:D_Mode):List UInt8:=Lib.join [Lib.itoa m.1,B9 m.2.1,B9 m.2.2.1] [47]
structure ModeG (m:D_Mode):Prop where
  d:1 <= m.1 /\ m.1 <= 12
  u:SmallL m.2.1
  c:SmallL m.2.2.1
theorem V4 {m:D_Mode} {b:UInt8} (h0:b ≠ 44) (h1:b ≠ 45) (h2:b ≠ 47) (h3:¬ isDig b):b ∉ Fi m:=fun h => by
  rcases Vi h with h | ⟨x,hx,h⟩
  · exact h2 h
  · simp only [List.mem_cons,List.not_mem_nil,or_false] at hx
    rcases hx with rfl | rfl | rfl
    · exact Rh h1 h3 h
    · exact ints_no h0 h1 h3 h
    · exact ints_no h0 h1 h3 h
theorem Ou {m:D_Mode} (h:ModeG m):(Fi m).length <= 387:=
  Ky (n:=3) (B:=128) (by simp) fun x hx => by
    have h1:=Pv h.u
    have h2:=Pv h.c
    have h3:=Ck (n:=m.1) (by have:=h.d; omega) (by have:=h.d; omega)
    simp only [List.mem_cons,List.not_mem_nil,or_false] at hx
    rcases hx with rfl | rfl | rfl <;> omega
theorem Aaq {m:D_Mode} (h:ModeG m) (u:Unit):H7 (m,u) () = some (Fi m,()):=by
  have hd:=h.d
  have h1:=Pv h.u
  have h2:=Pv h.c
  have h3:=Ck (n:=m.1) (by omega) (by omega)
  have hin:inB m.1 1 12 = true:=inB_iff.2 hd
  have ne:∀ l:List Int,eqS (B9 l) [] = false:=fun l => by
    cases he:eqS (B9 l) [] with
    | false => rfl
    | true => exact absurd (by simpa [eqS] using he) (ints_ne (l:=l))
  unfold H7
  simp only [Qk h.u,Qk h.c,Cy,hin,Ad,A9,Bool.false_eq_true,if_false,ne,Ew,fmtV_in (n:=m.1) (by omega) (by omega)]
  rw [ad8 (by simp; omega)]
  simp only [Ad]
  rw [ad8 (by simp; omega)]
  simp only [Ad]
  rw [ad8 (by simp; omega)]
  simp only [Ad]
  rw [ad8 (by simp; omega)]
  simp [Fi,Lib.join_cons,Lib.joinTail]
theorem Ace {m:D_Mode} (h:ModeG m) (u:Unit):I8 (Fi m,u) () = some ((m,(true,())),()):=by
  have hd:=h.d
  have htl:=Ou h
  have h3:=Ck (n:=m.1) (by omega) (by omega)
  have hin:inB m.1 1 12 = true:=inB_iff.2 hd
  have hsp:=L9 (Fi m) 47 () (by omega)
  rw [show splR 47 (Fi m) = [Lib.itoa m.1,B9 m.2.1,B9 m.2.2.1] from Oa (by simp) fun w hw => by
    simp only [List.mem_cons,List.not_mem_nil,or_false] at hw
    rcases hw with rfl | rfl | rfl
    · exact Rh (by decide) (not_dig (by decide))
    · exact ints_no (by decide) (by decide) (not_dig (by decide))
    · exact ints_no (by decide) (by decide) (not_dig (by decide))] at hsp
  have p1:=Dp (Lib.itoa m.1) () (by omega)
  rw [pI_itoa (by omega) (by omega)] at p1
  have g0:getI [Lib.itoa m.1,B9 m.2.1,B9 m.2.2.1] (0:Int) = some (Lib.itoa m.1):=rfl
  have g1:getI [Lib.itoa m.1,B9 m.2.1,B9 m.2.2.1] (1:Int) = some (B9 m.2.1):=rfl
  have g2:getI [Lib.itoa m.1,B9 m.2.1,B9 m.2.2.1] (2:Int) = some (B9 m.2.2.1):=rfl
  have e3:eqZ (([Lib.itoa m.1,B9 m.2.1,B9 m.2.2.1]:List (List UInt8)).length:Int) 3 = true:=rfl
  unfold I8
  simp only [hsp,Ad,lenI_eq,e3,g0,g1,g2,p1,R5 h.u,R5 h.c,Cy,hin,A9,Bool.false_eq_true,if_false]
theorem cut_gen {α:Type} {s:List α} {a i:Nat} (h1:a <= i) (h2:i <= s.length):cutI s (a:Int) (i:Int) = some ((s.take i).drop a):=by
  unfold cutI
  rw [if_pos (by omega)]
  simp
/-- the words of an activity, behind the first -/
def Iu (a:Ab):List (List UInt8):=[a.1,Lib.itoa a.2.1] ++ a.2.2.1.map Fi
structure ActG (a:Ab):Prop where
  f:0 <= a.2.1 /\ a.2.1 <= 60
  ml:a.2.2.1.length <= 2
  m:∀ m ∈ a.2.2.1,ModeG m
theorem Zu {a:Ab} (h:ActG a) (u:Unit):Hz (Iu a,u) () = some ((a,(true,())),()):=by
  have hf:=h.f
  have hml:=h.ml
  have hlen:(Iu a).length = a.2.2.1.length + 2:=by simp [Iu]
  have h2:ltZ ((Iu a).length:Int) 2 = false:=by rw [Bool.eq_false_iff,Ne,ltZ_iff,hlen]; omega
  have g0:getI (Iu a) (0:Int) = some a.1:=rfl
  have g1:getI (Iu a) (1:Int) = some (Lib.itoa a.2.1):=rfl
  have hc:cutI (Iu a) 2 ((Iu a).length:Int) = some (a.2.2.1.map Fi):=by
    rw [show (2:Int) = ((2:Nat):Int) from rfl,cut_gen (by omega) (Nat.le_refl _),List.take_length]
    rfl
  have p1:=Dp (Lib.itoa a.2.1) () (by have:=Ck (n:=a.2.1) (by omega) (by omega); omega)
  rw [pI_itoa (by omega) (by omega)] at p1
  obtain ⟨o,ho,rfl⟩:=A5 (A:=G7) (F:=Iq) a.2.2.1.length
    (fun j t => t = ((j:Int),((a.2.2.1.length:Int),(a.2.2.1.map Fi,((a.1,(a.2.1,(a.2.2.1.take j,()))),(true,(([],(0,([],()))),())))))))
    (fun o => o = .exit (Sum.inl (false,((a.2.2.1.length:Int),((a.2.2.1.length:Int),(a.2.2.1.map Fi,((a.1,(a.2.1,(a.2.2.1,()))),(true,(([],(0,([],()))),())))))))))
    (fun i s hi hI => by
      subst hI
      unfold Iq
      by_cases hlt:i < a.2.2.1.length
      · have hx:=h.m a.2.2.1[i] (List.getElem_mem hlt)
        have gw:getI (a.2.2.1.map Fi) (i:Int) = some (Fi a.2.2.1[i]):=by rw [getI_lt (by simp; exact hlt)]; simp
        have ht:a.2.2.1.take (i + 1) = a.2.2.1.take i ++ [a.2.2.1[i]]:=by
          rw [List.take_add_one,List.getElem?_eq_getElem hlt]
          rfl
        have a1:addI (a.2.2.1.take i) [a.2.2.1[i]] = some (a.2.2.1.take (i + 1)):=by rw [ht]; exact addI_ok (by rw [room_eq]; have:=List.length_take_le i a.2.2.1; simp; omega)
        simp only [lt_yes hlt,if_true,gw,Ad,Ace hx,a1,idxN hlt (by omega:a.2.2.1.length <= 1099511627776) (Nat.le_refl _)]
        exact ⟨_,rfl,hlt,rfl⟩
      · obtain rfl:i = a.2.2.1.length:=by omega
        simp only [lt_no,Bool.false_eq_true,if_false]
        exact ⟨_,rfl,by rw [List.take_length]⟩) (s:=(0,((a.2.2.1.length:Int),(a.2.2.1.map Fi,((a.1,(a.2.1,([],()))),(true,(([],(0,([],()))),()))))))) (by simp) (by unfold big; omega)
  unfold Hz
  simp only [lenI_eq,h2,Bool.false_eq_true,if_false,g0,g1,Ad,p1,hc,List.length_map,ho]
/-- the words of a resource, behind the first -/
def Mu (r:Af):List (List UInt8):=if r.2.1 = [] then [C7 r.1] else [C7 r.1,B9 r.2.1.flatten]
structure ResG (r:Af):Prop where
  s:StepsG r.1
  m:r.2.1 = [] \/ ∃ a1 a2 a3 a4 b1 b2 b3 b4 c1 c2 c3 c4 d1 d2 d3 d4,r.2.1 = [[a1,a2,a3,a4],[b1,b2,b3,b4],[c1,c2,c3,c4],[d1,d2,d3,d4]]
  v:SmallL r.2.1.flatten
theorem loop_ex {σ A B C:Type} {F:σ -> Option (Out σ B C)} {s:σ} {n:Nat} {b:B} (h:F s = some (.exit b)):loopN (A:=A) (n + 1) F s = some (.exit b):=by
  show (F s).bind _ = _
  rw [h]
  rfl
theorem Z9 {r:Af} (h:ResG r) (u:Unit):Gc (Mu r,u) () = some ((r,(true,())),()):=by
  have hp:=Aak h.s
  have hv:=R5 h.v
  obtain ⟨ss,rows,uu⟩:=r
  cases uu
  rcases h.m with hm | ⟨a1,a2,a3,a4,b1,b2,b3,b4,c1,c2,c3,c4,d1,d2,d3,d4,hm⟩
  · have hm:rows = []:=hm
    subst hm
    have hw:Mu (ss,([],())) = [C7 ss]:=rfl
    rw [hw]
    have e1:inB (([C7 ss]:List (List UInt8)).length:Int) 1 2 = true:=rfl
    have e2:eqZ (([C7 ss]:List (List UInt8)).length:Int) 2 = false:=rfl
    have g0:getI [C7 ss] (0:Int) = some (C7 ss):=rfl
    have hp':∀ u,E0 (C7 ss,u) () = some ((ss,(true,())),()):=hp
    unfold Gc
    simp only [lenI_eq,Cy,e1,e2,g0,hp',Ad,A9,Bool.false_eq_true,if_false]
  · have hm:rows = [[a1,a2,a3,a4],[b1,b2,b3,b4],[c1,c2,c3,c4],[d1,d2,d3,d4]]:=hm
    subst hm
    obtain ⟨fl,hfl⟩:∃ fl,fl = [a1,a2,a3,a4,b1,b2,b3,b4,c1,c2,c3,c4,d1,d2,d3,d4]:=⟨_,rfl⟩
    have hfe:([[a1,a2,a3,a4],[b1,b2,b3,b4],[c1,c2,c3,c4],[d1,d2,d3,d4]]:List (List Int)).flatten = fl:=by rw [hfl]; rfl
    have hv':∀ u,Dj (B9 fl,u) () = some ((fl,(true,())),()):=fun u => by rw [<- hfe]; exact hv u
    have hw:Mu (ss,([[a1,a2,a3,a4],[b1,b2,b3,b4],[c1,c2,c3,c4],[d1,d2,d3,d4]],())) = [C7 ss,B9 fl]:=by rw [<- hfe]; rfl
    rw [hw]
    have e1:inB (([C7 ss,B9 fl]:List (List UInt8)).length:Int) 1 2 = true:=rfl
    have e2:eqZ (([C7 ss,B9 fl]:List (List UInt8)).length:Int) 2 = true:=rfl
    have g0:getI [C7 ss,B9 fl] (0:Int) = some (C7 ss):=rfl
    have g1:getI [C7 ss,B9 fl] (1:Int) = some (B9 fl):=rfl
    have hp':∀ u,E0 (C7 ss,u) () = some ((ss,(true,())),()):=hp
    have e16:eqZ (fl.length:Int) 16 = true:=by rw [hfl]; rfl
    have k0:cutI fl 0 4 = some [a1,a2,a3,a4]:=by rw [hfl]; rfl
    have k1:cutI fl 4 8 = some [b1,b2,b3,b4]:=by rw [hfl]; rfl
    have k2:cutI fl 8 12 = some [c1,c2,c3,c4]:=by rw [hfl]; rfl
    have k3:cutI fl 12 16 = some [d1,d2,d3,d4]:=by rw [hfl]; rfl
    have st:∀ (i j:Int) (x:List Int) (rs:List (List Int)) (z:Af),ltZ i 16 = true -> addZ .i64 i 4 = j -> cutI fl i j = some x -> x.length <= 1048576 -> rs.length <= 16 -> Gj (i,(fl,((ss,(rs,())),(true,(z,()))))) = some (.norm (j,(fl,((ss,(rs ++ [x],())),(true,(z,())))))):=fun i j x rs z h1 h2 h3 h4 h5 => by
      have ha:addI rs [x] = some (rs ++ [x]):=addI_ok (by rw [room_eq]; simp; omega)
      unfold Gj
      simp only [h1,if_true,h2,h3,Ad,Qm x () h4,ha]
    have hloop:∀ (A:Type) (z:Af),loopN (A:=A) big Gj (0,(fl,((ss,([],())),(true,(z,()))))) = some (.exit (Sum.inl (false,(16,(fl,((ss,([[a1,a2,a3,a4],[b1,b2,b3,b4],[c1,c2,c3,c4],[d1,d2,d3,d4]],())),(true,(z,())))))))):=fun A z => by
      obtain ⟨n,hn⟩:=Aa3
      rw [hn]
      refine (loop_nx (st 0 4 _ [] z rfl rfl k0 (by simp) (by simp))).trans ?_
      refine (loop_nx (st 4 8 _ _ z rfl rfl k1 (by simp) (by simp))).trans ?_
      refine (loop_nx (st 8 12 _ _ z rfl rfl k2 (by simp) (by simp))).trans ?_
      refine (loop_nx (st 12 16 _ _ z rfl rfl k3 (by simp) (by simp))).trans ?_
      exact loop_ex rfl
    unfold Gc
    simp only [lenI_eq,Cy,e1,e2,g0,g1,hp',hv',Ad,A9,Bool.false_eq_true,if_false,if_true,e16,hloop]
theorem Agg {p q:Aa} (hP:GenP 3 p) {k:D_Link} (hk:k ∈ p.2.2.1) (hq:q.2.1 = p.2.1) (u:Unit):De (q,([genName k.1.toNat,genName k.2.1.toNat,Lib.itoa k.2.2.2.1],(k.2.2.1,u))) () = some ((k,(true,())),()):=by
  have hal:=hP.al
  obtain ⟨f,t,h⟩:=link_g hP hk
  obtain ⟨k1,k2,b,g,uu⟩:=k
  obtain ⟨rfl,hf,rfl,ht,hg⟩:=h
  have hg:-60 <= g /\ g <= 60:=hg
  have p1:=Dp (Lib.itoa g) () (by have:=Ck (n:=g) (by omega) (by omega); omega)
  rw [pI_itoa (by omega) (by omega)] at p1
  have i1:=Gl q (genName f) () (by rw [hq]; omega)
  have i2:=Gl q (genName t) () (by rw [hq]; omega)
  rw [hq,Qh hP (by omega) hf] at i1
  rw [hq,Qh hP (by omega) ht] at i2
  have g0:getI [genName f,genName t,Lib.itoa g] (0:Int) = some (genName f):=rfl
  have g1:getI [genName f,genName t,Lib.itoa g] (1:Int) = some (genName t):=rfl
  have g2:getI [genName f,genName t,Lib.itoa g] (2:Int) = some (Lib.itoa g):=rfl
  have e3:eqZ (([genName f,genName t,Lib.itoa g]:List (List UInt8)).length:Int) 3 = true:=rfl
  show De (q,([genName f,genName t,Lib.itoa g],(b,u))) () = _
  unfold De
  simp only [lenI_eq,e3,A9,Bool.false_eq_true,if_false,g0,g1,g2,Ad,p1,i1,i2]
open Go.Abs
set_option linter.unusedVariables false
set_option linter.unusedSimpArgs false
def hdDl:List UInt8:=[100,101,97,100,108,105,110,101]
def hdRes:List UInt8:=[114,101,115,111,117,114,99,101]
def hdStk:List UInt8:=[115,116,111,99,107]
def hdAct:List UInt8:=[97,99,116,105,118,105,116,121]
def dlLine (n:Int):List UInt8:=Lib.join [hdDl,Lib.itoa n] [32]
def resLine (r:Af):List UInt8:=Lib.join (hdRes :: Mu r) [32]
def stkLine (n:Int):List UInt8:=Lib.join [hdStk,Lib.itoa n] [32]
def actLine (a:Ab):List UInt8:=Lib.join (hdAct :: Iu a) [32]
def Lx (k:D_Link):List UInt8:=Lib.join (Jj k) [32]
def Cp (p:Aa):List (List UInt8):=dlLine p.1 :: (p.2.2.2.1.map resLine ++ (p.2.2.2.2.1.map stkLine ++ (p.2.1.map actLine ++ p.2.2.1.map Lx)))
def K4 (p:Aa):List UInt8:=Lib.join (Cp p) [10] ++ [10]
theorem Aen {α:Type} {xs:List (List α)} {m:Nat} (h:∀ l ∈ xs,l.length <= m):xs.flatten.length <= xs.length * m:=by
  induction xs with
  | nil => simp
  | cons x xs ih =>
    have h1:=h x (by simp)
    have h2:=ih fun l hl => h l (by simp [hl])
    simp only [List.flatten_cons,List.length_append,List.length_cons,Nat.add_mul]
    omega
theorem len4 {α:Type} {l:List α} (h:l.length = 4):∃ a b c d,l = [a,b,c,d]:=by
  match l,h with
  | [a,b,c,d],_ => exact ⟨a,b,c,d,rfl⟩
theorem GenR.g {r:Af} (h:GenR r):ResG r:=by
  refine ⟨steps_g h.steps,?_,?_⟩
  · rcases h.setup with h | ⟨h1,h2⟩
    · exact .inl h
    · right
      obtain ⟨r1,r2,r3,r4,he⟩:=len4 h1
      rw [he] at h2 ⊢
      obtain ⟨a1,a2,a3,a4,rfl⟩:=len4 (h2 r1 (by simp)).1
      obtain ⟨b1,b2,b3,b4,rfl⟩:=len4 (h2 r2 (by simp)).1
      obtain ⟨c1,c2,c3,c4,rfl⟩:=len4 (h2 r3 (by simp)).1
      obtain ⟨d1,d2,d3,d4,rfl⟩:=len4 (h2 r4 (by simp)).1
      exact ⟨a1,a2,a3,a4,b1,b2,b3,b4,c1,c2,c3,c4,d1,d2,d3,d4,rfl⟩
  · rcases h.setup with h | ⟨h1,h2⟩
    · rw [h]
      exact ⟨by simp,by simp⟩
    · refine ⟨?_,fun x hx => ?_⟩
      · have:=Aen (xs:=r.2.1) (m:=4) fun l hl => Nat.le_of_eq (h2 l hl).1
        omega
      · obtain ⟨l,hl,hx⟩:=List.mem_flatten.1 hx
        have:=(h2 l hl).2 x hx
        omega
theorem GenM.g {r s:Nat} {m:D_Mode} (h:GenM r s m) (hr:r <= 16) (hs:s <= 16):ModeG m:=
  ⟨by have:=h.d; omega,⟨by rw [h.ul]; exact hr,fun x hx => by have:=h.u x hx; omega⟩,⟨by rw [h.cl]; exact hs,fun x hx => by have:=h.c x hx; omega⟩⟩
theorem GenA.g {r s i:Nat} {a:Ab} (h:GenA r s i a) (hr:r <= 16) (hs:s <= 16):ActG a:=
  ⟨by have:=h.fam; omega,by have:=h.ml; omega,fun m hm => (h.m m hm).g hr hs⟩
theorem Z5 {r:Af} (h:ResG r):(resLine r).length <= 387:=by
  have h1:=V3 h.s
  have h2:=Pv h.v
  unfold resLine Mu
  split
  · have:=Ky (xs:=[hdRes,C7 r.1]) (b:=32) (n:=2) (B:=128) (by simp) fun x hx => by
      simp only [List.mem_cons,List.not_mem_nil,or_false] at hx
      rcases hx with rfl | rfl
      · decide
      · exact h1
    omega
  · exact Ky (n:=3) (B:=128) (by simp) fun x hx => by
      simp only [List.mem_cons,List.not_mem_nil,or_false] at hx
      rcases hx with rfl | rfl | rfl
      · decide
      · exact h1
      · exact h2
theorem Aar {p:Aa} (hr:∀ r ∈ p.2.2.2.1,ResG r) (hl:p.2.2.2.1.length <= 16) {i:Nat} (hlt:i < p.2.2.2.1.length) (out:List (List UInt8)) (ho:out.length <= 100) :
    Cr ((i:Int),((p.2.2.2.1.length:Int),(p.2.2.2.1,(p,(out,()))))) = some (.norm (((i + 1:Nat):Int),((p.2.2.2.1.length:Int),(p.2.2.2.1,(p,(out ++ [resLine p.2.2.2.1[i]],())))))):=by
  have hx:=hr p.2.2.2.1[i] (List.getElem_mem hlt)
  generalize hR:p.2.2.2.1[i] = r at hx
  have g0:getI p.2.2.2.1 (i:Int) = some r:=by rw [<- hR]; exact getI_lt hlt
  have h1:=V3 hx.s
  have h2:=Pv hx.v
  have f1:=fun u => Zp hx.s u
  have f2:=fun u => Qk hx.v u
  unfold Cr
  simp only [lt_yes hlt,if_true,g0,Ad,f1]
  rw [ad8 (by simp; omega)]
  simp only [Ad,lenI_eq]
  rcases hx.m with hm | ⟨a1,a2,a3,a4,b1,b2,b3,b4,c1,c2,c3,c4,d1,d2,d3,d4,hm⟩
  · have e0:ltZ 0 (r.2.1.length:Int) = false:=by rw [hm]; rfl
    simp only [e0,Bool.false_eq_true,if_false,Ad]
    rw [add_ll (by simp; omega)]
    simp only [Ad,idxN hlt (by omega:p.2.2.2.1.length <= 1099511627776) (Nat.le_refl _)]
    have e:([114,101,115,111,117,114,99,101,32] ++ C7 r.1:List UInt8) = resLine r:=by
      unfold resLine Mu
      rw [if_pos hm]
      simp [Lib.join_cons,Lib.joinTail,hdRes]
    rw [e]
  · have e0:ltZ 0 (r.2.1.length:Int) = true:=by rw [hm]; rfl
    have hc:∀ u,Ek (r.2.1,u) () = some (r.2.1.flatten,()):=fun u => by
      show (if r.2.1.length <= 1000 /\ (∀ l ∈ r.2.1,l.length <= 1000) then some (r.2.1.flatten,()) else none) = _
      rw [if_pos ⟨by rw [hm]; simp,by rw [hm]; intro l hl; simp only [List.mem_cons,List.not_mem_nil,or_false] at hl; rcases hl with rfl | rfl | rfl | rfl <;> simp⟩]
    simp only [e0,if_true,hc,Ad,f2]
    rw [ad8 (by simp; omega)]
    simp only [Ad]
    rw [ad8 (by simp; omega)]
    simp only [Ad]
    rw [add_ll (by simp; omega)]
    simp only [Ad,idxN hlt (by omega:p.2.2.2.1.length <= 1099511627776) (Nat.le_refl _)]
    have e:([114,101,115,111,117,114,99,101,32] ++ C7 r.1 ++ ([32] ++ B9 r.2.1.flatten):List UInt8) = resLine r:=by
      unfold resLine Mu
      rw [if_neg (by rw [hm]; simp)]
      simp [Lib.join_cons,Lib.joinTail,hdRes]
    rw [e]
theorem S1 {α β:Type} {f:α -> β} {l:List α} {i:Nat} (h:i < l.length):(l.map f).take (i + 1) = (l.map f).take i ++ [f l[i]]:=by
  rw [List.take_add_one]
  simp [List.getElem?_eq_getElem h]
theorem Ahf {p:Aa} (hr:∀ r ∈ p.2.2.2.1,ResG r) (hl:p.2.2.2.1.length <= 16) (pre:List (List UInt8)) (hp:pre.length <= 50) (A:Type) :
    loopN (A:=A) big Cr (0,((p.2.2.2.1.length:Int),(p.2.2.2.1,(p,(pre,()))))) = some (.exit (Sum.inl (false,((p.2.2.2.1.length:Int),((p.2.2.2.1.length:Int),(p.2.2.2.1,(p,(pre ++ p.2.2.2.1.map resLine,())))))))):=by
  obtain ⟨o,ho,rfl⟩:=A5 (A:=A) (F:=Cr) p.2.2.2.1.length
    (fun j t => t = ((j:Int),((p.2.2.2.1.length:Int),(p.2.2.2.1,(p,(pre ++ (p.2.2.2.1.map resLine).take j,()))))))
    (fun o => o = .exit (Sum.inl (false,((p.2.2.2.1.length:Int),((p.2.2.2.1.length:Int),(p.2.2.2.1,(p,(pre ++ p.2.2.2.1.map resLine,()))))))))
    (fun i s hi hI => by
      subst hI
      by_cases hlt:i < p.2.2.2.1.length
      · rw [Aar hr hl hlt _ (by have:=List.length_take_le i (p.2.2.2.1.map resLine); simp; omega)]
        exact ⟨_,rfl,hlt,by rw [S1 hlt,List.append_assoc]⟩
      · obtain rfl:i = p.2.2.2.1.length:=by omega
        unfold Cr
        simp only [lt_no,Bool.false_eq_true,if_false]
        exact ⟨_,rfl,by rw [List.take_of_length_le (by simp)]⟩) (s:=(0,((p.2.2.2.1.length:Int),(p.2.2.2.1,(p,(pre,())))))) (by simp) (by unfold big; omega)
  exact ho
theorem Agp {p:Aa} (hr:∀ r ∈ p.2.2.2.2.1,0 <= r /\ r <= 100) (hl:p.2.2.2.2.1.length <= 16) (pre:List (List UInt8)) (hp:pre.length <= 50) (A:Type) :
    loopN (A:=A) big En (0,((p.2.2.2.2.1.length:Int),(p.2.2.2.2.1,(p,(pre,()))))) = some (.exit (Sum.inl (false,((p.2.2.2.2.1.length:Int),((p.2.2.2.2.1.length:Int),(p.2.2.2.2.1,(p,(pre ++ p.2.2.2.2.1.map stkLine,())))))))):=by
  obtain ⟨o,ho,rfl⟩:=A5 (A:=A) (F:=En) p.2.2.2.2.1.length
    (fun j t => t = ((j:Int),((p.2.2.2.2.1.length:Int),(p.2.2.2.2.1,(p,(pre ++ (p.2.2.2.2.1.map stkLine).take j,()))))))
    (fun o => o = .exit (Sum.inl (false,((p.2.2.2.2.1.length:Int),((p.2.2.2.2.1.length:Int),(p.2.2.2.2.1,(p,(pre ++ p.2.2.2.2.1.map stkLine,()))))))))
    (fun i s hi hI => by
      subst hI
      unfold En
      by_cases hlt:i < p.2.2.2.2.1.length
      · have hx:=hr _ (List.getElem_mem hlt)
        have l1:=Ck (n:=p.2.2.2.2.1[i]) (by omega) (by omega)
        simp only [lt_yes hlt,if_true,getI_lt hlt,Ad,Ew,fmtV_in (n:=p.2.2.2.2.1[i]) (by omega) (by omega)]
        rw [ad8 (by simp; omega)]
        simp only [Ad]
        rw [add_ll (by have:=List.length_take_le i (p.2.2.2.2.1.map stkLine); simp; omega)]
        simp only [Ad,idxN hlt (by omega:p.2.2.2.2.1.length <= 1099511627776) (Nat.le_refl _)]
        have e:([115,116,111,99,107,32] ++ Lib.itoa p.2.2.2.2.1[i]:List UInt8) = stkLine p.2.2.2.2.1[i]:=by simp [stkLine,Lib.join_cons,Lib.joinTail,hdStk]
        exact ⟨_,rfl,hlt,by rw [S1 hlt,e,List.append_assoc]⟩
      · obtain rfl:i = p.2.2.2.2.1.length:=by omega
        simp only [lt_no,Bool.false_eq_true,if_false]
        exact ⟨_,rfl,by rw [List.take_of_length_le (by simp)]⟩) (s:=(0,((p.2.2.2.2.1.length:Int),(p.2.2.2.2.1,(p,(pre,())))))) (by simp) (by unfold big; omega)
  exact ho
theorem Ags {p:Aa} (hP:GenP 3 p) (pre:List (List UInt8)) (hp:pre.length <= 50) (A:Type) :
    loopN (A:=A) big Eo (0,((p.2.2.1.length:Int),(p.2.2.1,(p,(pre,()))))) = some (.exit (Sum.inl (false,((p.2.2.1.length:Int),((p.2.2.1.length:Int),(p.2.2.1,(p,(pre ++ p.2.2.1.map Lx,())))))))):=by
  have hkl:=hP.kl
  obtain ⟨o,ho,rfl⟩:=A5 (A:=A) (F:=Eo) p.2.2.1.length
    (fun j t => t = ((j:Int),((p.2.2.1.length:Int),(p.2.2.1,(p,(pre ++ (p.2.2.1.map Lx).take j,()))))))
    (fun o => o = .exit (Sum.inl (false,((p.2.2.1.length:Int),((p.2.2.1.length:Int),(p.2.2.1,(p,(pre ++ p.2.2.1.map Lx,()))))))))
    (fun i s hi hI => by
      subst hI
      unfold Eo
      by_cases hlt:i < p.2.2.1.length
      · simp only [lt_yes hlt,if_true,getI_lt hlt,Ad,Xr hP (List.getElem_mem hlt)]
        rw [add_ll (by have:=List.length_take_le i (p.2.2.1.map Lx); simp; omega)]
        simp only [Ad,idxN hlt (by omega:p.2.2.1.length <= 1099511627776) (Nat.le_refl _)]
        exact ⟨_,rfl,hlt,by rw [S1 hlt,List.append_assoc]; rfl⟩
      · obtain rfl:i = p.2.2.1.length:=by omega
        simp only [lt_no,Bool.false_eq_true,if_false]
        exact ⟨_,rfl,by rw [List.take_of_length_le (by simp)]⟩) (s:=(0,((p.2.2.1.length:Int),(p.2.2.1,(p,(pre,())))))) (by simp) (by unfold big; omega)
  exact ho
theorem Ys {xs:List (List UInt8)} {B n:Nat} (hn:xs.length <= n) (h:∀ x ∈ xs,x.length <= B):(Lib.joinTail [32] xs).length <= n * (B + 1):=by
  have h1:=Q4 (sep:=[32]) (B:=B + 1) (xs:=xs) fun x hx => by have:=h x hx; simp; omega
  exact Nat.le_trans h1 (Nat.mul_le_mul_right _ hn)
theorem Af7 {a:Ab} (ha:ActG a) (base:List UInt8) (hb:base.length <= 1000) (R:Int × Int × List Ab × Aa × Unit) (out:List (List UInt8)) (A:Type) :
    loopN (A:=A) big Em (0,((a.2.2.1.length:Int),(a.2.2.1,(out,(base,R))))) = some (.exit (Sum.inl (false,((a.2.2.1.length:Int),((a.2.2.1.length:Int),(a.2.2.1,(out,(base ++ Lib.joinTail [32] (a.2.2.1.map Fi),R)))))))):=by
  have hml:=ha.ml
  obtain ⟨o,ho,rfl⟩:=A5 (A:=A) (F:=Em) a.2.2.1.length
    (fun j t => t = ((j:Int),((a.2.2.1.length:Int),(a.2.2.1,(out,(base ++ Lib.joinTail [32] ((a.2.2.1.map Fi).take j),R))))))
    (fun o => o = .exit (Sum.inl (false,((a.2.2.1.length:Int),((a.2.2.1.length:Int),(a.2.2.1,(out,(base ++ Lib.joinTail [32] (a.2.2.1.map Fi),R))))))))
    (fun i s hi hI => by
      subst hI
      unfold Em
      by_cases hlt:i < a.2.2.1.length
      · have hx:=ha.m _ (List.getElem_mem hlt)
        have l1:=Ou hx
        have l2:=Ys (xs:=(a.2.2.1.map Fi).take i) (n:=3) (B:=387) (by have:=List.length_take_le i (a.2.2.1.map Fi); simp at this ⊢; omega) fun x hx => by
          obtain ⟨m,hm,rfl⟩:=List.mem_map.1 (List.mem_of_mem_take hx)
          exact Ou (ha.m m hm)
        have hj:=Lib.joinTail_take_succ [32] (a.2.2.1.map Fi) i (Fi a.2.2.1[i]) (by simp [List.getElem?_eq_getElem hlt])
        simp only [lt_yes hlt,if_true,getI_lt hlt,Ad,Aaq hx]
        rw [ad8 (by simp; omega)]
        simp only [Ad]
        rw [ad8 (by simp; omega)]
        simp only [Ad,idxN hlt (by omega:a.2.2.1.length <= 1099511627776) (Nat.le_refl _)]
        exact ⟨_,rfl,hlt,by rw [hj]; simp only [List.append_assoc]⟩
      · obtain rfl:i = a.2.2.1.length:=by omega
        simp only [lt_no,Bool.false_eq_true,if_false]
        exact ⟨_,rfl,by rw [List.take_of_length_le (by simp)]⟩) (s:=(0,((a.2.2.1.length:Int),(a.2.2.1,(out,(base,R)))))) (by simp [Lib.joinTail]) (by unfold big; omega)
  exact ho
theorem Agh {p:Aa} (hr:∀ a ∈ p.2.1,ActG a) (hn:∀ a ∈ p.2.1,a.1.length <= 2) (hl:p.2.1.length <= 16) (pre:List (List UInt8)) (hp:pre.length <= 50) (A:Type) :
    loopN (A:=A) big Ep (0,((p.2.1.length:Int),(p.2.1,(p,(pre,()))))) = some (.exit (Sum.inl (false,((p.2.1.length:Int),((p.2.1.length:Int),(p.2.1,(p,(pre ++ p.2.1.map actLine,())))))))):=by
  obtain ⟨o,ho,rfl⟩:=A5 (A:=A) (F:=Ep) p.2.1.length
    (fun j t => t = ((j:Int),((p.2.1.length:Int),(p.2.1,(p,(pre ++ (p.2.1.map actLine).take j,()))))))
    (fun o => o = .exit (Sum.inl (false,((p.2.1.length:Int),((p.2.1.length:Int),(p.2.1,(p,(pre ++ p.2.1.map actLine,()))))))))
    (fun i s hi hI => by
      subst hI
      unfold Ep
      by_cases hlt:i < p.2.1.length
      · have hx:=hr _ (List.getElem_mem hlt)
        have hnl:=hn _ (List.getElem_mem hlt)
        have hf:=hx.f
        have l1:=Ck (n:=p.2.1[i].2.1) (by omega) (by omega)
        simp only [lt_yes hlt,if_true,getI_lt hlt,Ad,Ew,fmtV_in (n:=p.2.1[i].2.1) (by omega) (by omega)]
        rw [ad8 (by simp; omega)]
        simp only [Ad]
        rw [ad8 (by simp; omega)]
        simp only [Ad]
        rw [ad8 (by simp; omega)]
        simp only [Ad,lenI_eq]
        rw [Af7 hx _ (by simp; omega)]
        simp only [Ad]
        rw [add_ll (by have:=List.length_take_le i (p.2.1.map actLine); simp; omega)]
        simp only [Ad,idxN hlt (by omega:p.2.1.length <= 1099511627776) (Nat.le_refl _)]
        have e:([97,99,116,105,118,105,116,121,32] ++ p.2.1[i].1 ++ [32] ++ Lib.itoa p.2.1[i].2.1 ++ Lib.joinTail [32] (p.2.1[i].2.2.1.map Fi):List UInt8) = actLine p.2.1[i]:=by simp [actLine,Iu,Lib.join_cons,Lib.joinTail,hdAct]
        exact ⟨_,rfl,hlt,by rw [S1 hlt,e,List.append_assoc]⟩
      · obtain rfl:i = p.2.1.length:=by omega
        simp only [lt_no,Bool.false_eq_true,if_false]
        exact ⟨_,rfl,by rw [List.take_of_length_le (by simp)]⟩) (s:=(0,((p.2.1.length:Int),(p.2.1,(p,(pre,())))))) (by simp) (by unfold big; omega)
  exact ho
open Go.Abs
set_option linter.unusedVariables false
set_option linter.unusedSimpArgs false
theorem res_len {r:Af} (h:ResG r):(resLine r).length <= 2000:=by have:=Z5 h; omega
theorem two_len {h:List UInt8} {n:Int} (hh:h.length <= 8) (hn:0 <= n /\ n <= 100):(Lib.join [h,Lib.itoa n] [32]).length <= 2000:=by
  have l1:=Ck (n:=n) (by omega) (by omega)
  simp [Lib.join_cons,Lib.joinTail]
  omega
theorem act_len {a:Ab} (h:ActG a) (hn:a.1.length <= 2):(actLine a).length <= 2000:=by
  have hml:=h.ml
  have hf:=h.f
  have:=Ky (xs:=hdAct :: Iu a) (b:=32) (n:=5) (B:=387) (by simp [Iu]; omega) fun x hx => by
    simp only [Iu,List.mem_cons,List.cons_append,List.nil_append,List.mem_map] at hx
    rcases hx with rfl | rfl | rfl | ⟨m,hm,rfl⟩
    · decide
    · omega
    · have:=Ck (n:=a.2.1) (by omega) (by omega); omega
    · exact Ou (h.m m hm)
  unfold actLine
  omega
theorem lnk_len {k:D_Link} (hg:-60 <= k.2.2.2.1 /\ k.2.2.2.1 <= 60):(Lx k).length <= 2000:=by
  have l1:=Ck (n:=k.2.2.2.1) (by omega) (by omega)
  have l2:=Fv k.1.toNat
  have l3:=Fv k.2.1.toNat
  have l4:=Uo k.2.2.1
  simp [Lx,Jj,Lib.join_cons,Lib.joinTail]
  omega
section
variable {p:Aa}
theorem V9 (hP:GenP 3 p):∀ x ∈ Cp p,x.length <= 2000:=fun x hx => by
  have hal:=hP.al
  have hrl:=hP.rl
  have hsl:=hP.sl
  have hdl:=hP.dl
  unfold Cp at hx
  simp only [List.mem_cons,List.mem_append,List.mem_map] at hx
  rcases hx with rfl | ⟨r,hr,rfl⟩ | ⟨n,hn,rfl⟩ | ⟨a,ha,rfl⟩ | ⟨k,hk,rfl⟩
  · exact two_len (by decide) (by omega)
  · exact res_len (hP.r r hr).g
  · exact two_len (by decide) (by have:=hP.s n hn; omega)
  · obtain ⟨i,hi,rfl⟩:=List.mem_iff_getElem.1 ha
    exact act_len ((hP.a i hi).g (by omega) (by omega)) (by rw [(hP.a i hi).name]; exact Fv i)
  · obtain ⟨f,t,h⟩:=link_g hP hk
    exact lnk_len h.g
theorem lines_n (hP:GenP 3 p):(Cp p).length <= 16:=by
  have hal:=hP.al
  have hrl:=hP.rl
  have hsl:=hP.sl
  have hkl:=hP.kl
  simp [Cp]
  omega
theorem Ahi (hP:GenP 3 p):(K4 p).length <= 100000:=by
  have:=Ky (xs:=Cp p) (b:=10) (n:=16) (B:=2000) (lines_n hP) (V9 hP)
  unfold K4
  simp only [List.length_append,List.length_singleton]
  omega
theorem Qp (hP:GenP 3 p) (u:Unit):C6 (p,u) () = some (K4 p,()):=by
  have hal:=hP.al
  have hrl:=hP.rl
  have hsl:=hP.sl
  have hdl:=hP.dl
  have sm:=hP.sm (by omega) (B:=1099511627776) (by omega)
  have hpj:=hP.ok (by omega)
  have l1:=Ck (n:=p.1) (by omega) (by omega)
  have l0:=Ky (xs:=Cp p) (b:=10) (n:=16) (B:=2000) (lines_n hP) (V9 hP)
  have hR:∀ r ∈ p.2.2.2.1,ResG r:=fun r hr => (hP.r r hr).g
  have hS:∀ r ∈ p.2.2.2.2.1,0 <= r /\ r <= 100:=fun r hr => by have:=hP.s r hr; omega
  have hA:∀ a ∈ p.2.1,ActG a:=fun a ha => by
    obtain ⟨i,hi,rfl⟩:=List.mem_iff_getElem.1 ha
    exact (hP.a i hi).g (by omega) (by omega)
  have hN:∀ a ∈ p.2.1,a.1.length <= 2:=fun a ha => by
    obtain ⟨i,hi,rfl⟩:=List.mem_iff_getElem.1 ha
    rw [(hP.a i hi).name]
    exact Fv i
  have e:([100,101,97,100,108,105,110,101,32] ++ Lib.itoa p.1:List UInt8) = dlLine p.1:=by simp [dlLine,Lib.join_cons,Lib.joinTail,hdDl]
  have hj:=Q5 (Cp p) [10] () (by have:=lines_n hP; omega) (fun x hx => by have:=V9 hP x hx; omega) (by simp)
  unfold C6
  simp only [I3 p () sm,hpj,Ad,A9,Bool.false_eq_true,if_false,Ew,fmtV_in (n:=p.1) (by omega) (by omega)]
  rw [ad8 (by simp; omega)]
  simp only [Ad,lenI_eq,e]
  rw [Ahf hR (by omega) _ (by simp)]
  simp only [Ad]
  rw [Agp hS (by omega) _ (by simp; omega)]
  simp only [Ad]
  rw [Agh hA hN (by omega) _ (by simp; omega)]
  simp only [Ad]
  rw [Ags hP _ (by simp; omega)]
  simp only [Ad]
  have el:((([dlLine p.1] ++ p.2.2.2.1.map resLine) ++ p.2.2.2.2.1.map stkLine) ++ p.2.1.map actLine) ++ p.2.2.1.map Lx = Cp p:=by simp [Cp]
  rw [el,hj]
  simp only [Ad]
  rw [ad8 (by simp; omega)]
  rfl
end
/-! lines that are read -/
theorem Pe {ws:List (List UInt8)} (hne:ws ≠ []) (hl:(Lib.join ws [32]).length <= 100000) (h:∀ w ∈ ws,(32:UInt8) ∉ w) (u:Unit):Ca (Lib.join ws [32],([32],u)) () = some (ws,()):=by
  have:=L9 (Lib.join ws [32]) 32 u (by omega)
  rw [Oa hne h] at this
  exact this
theorem Rf {α:Type} {x:α} {l:List α}:cutI (x :: l) 1 ((x :: l).length:Int) = some l:=by
  rw [show (1:Int) = ((1:Nat):Int) from rfl,cut_gen (by simp) (Nat.le_refl _),List.take_length]
  rfl
theorem Rc {α:Type} {x:α} {l:List α}:getI (x :: l) (0:Int) = some x:=rfl
theorem line_dl {q:Aa} {n:Int} (hn:0 <= n /\ n <= 100) (u:Unit):Bs (q,(dlLine n,u)) () = some (true,(n,q.2)):=by
  have hsp:=fun u => Pe (ws:=[hdDl,Lib.itoa n]) (by simp) (by have:=two_len (h:=hdDl) (n:=n) (by decide) hn; omega) (by simp only [List.mem_cons,List.not_mem_nil,or_false]; rintro w (rfl | rfl); decide; exact itoa_no (by decide)) u
  have l1:=Ck (n:=n) (by omega) (by omega)
  have p1:=fun u => Dp (Lib.itoa n) u (by omega)
  rw [pI_itoa (by omega) (by omega)] at p1
  have e1:eqS hdDl [100,101,97,100,108,105,110,101] = true:=by decide
  have e2:eqZ (([Lib.itoa n]:List (List UInt8)).length:Int) 1 = true:=rfl
  unfold Bs dlLine
  simp only [hsp,Ad,lenI_eq,Rf,Rc,e1,if_true,e2,A9,Bool.false_eq_true,if_false,p1]
theorem Aig {q:Aa} {n:Int} (hn:0 <= n /\ n <= 100) (hq:q.2.2.2.2.1.length <= 100) (u:Unit):Bs (q,(stkLine n,u)) () = some (true,(q.1,(q.2.1,(q.2.2.1,(q.2.2.2.1,(q.2.2.2.2.1 ++ [n],())))))):=by
  have hsp:=fun u => Pe (ws:=[hdStk,Lib.itoa n]) (by simp) (by have:=two_len (h:=hdStk) (n:=n) (by decide) hn; omega) (by simp only [List.mem_cons,List.not_mem_nil,or_false]; rintro w (rfl | rfl); decide; exact itoa_no (by decide)) u
  have l1:=Ck (n:=n) (by omega) (by omega)
  have p1:=fun u => Dp (Lib.itoa n) u (by omega)
  rw [pI_itoa (by omega) (by omega)] at p1
  have e1:eqS hdStk [100,101,97,100,108,105,110,101] = false:=by decide
  have e3:eqS hdStk [114,101,115,111,117,114,99,101] = false:=by decide
  have e4:eqS hdStk [115,116,111,99,107] = true:=by decide
  have e2:eqZ (([Lib.itoa n]:List (List UInt8)).length:Int) 1 = true:=rfl
  have ha:addI q.2.2.2.2.1 [n] = some (q.2.2.2.2.1 ++ [n]):=addI_ok (by rw [room_eq]; simp; omega)
  unfold Bs stkLine
  simp only [hsp,Ad,lenI_eq,Rf,Rc,e1,e3,e4,if_true,e2,A9,Bool.false_eq_true,if_false,p1,ha]
theorem Ab6 {r:Af}:∀ w ∈ hdRes :: Mu r,(32:UInt8) ∉ w:=fun w hw => by
  unfold Mu at hw
  split at hw <;> simp only [List.mem_cons,List.not_mem_nil,or_false] at hw
  · rcases hw with rfl | rfl
    · decide
    · exact Vb (by decide) (by decide) (by decide) (not_dig (by decide))
  · rcases hw with rfl | rfl | rfl
    · decide
    · exact Vb (by decide) (by decide) (by decide) (not_dig (by decide))
    · exact ints_no (by decide) (by decide) (not_dig (by decide))
theorem Agz {q:Aa} {r:Af} (h:ResG r) (hq:q.2.2.2.1.length <= 100) (u:Unit):Bs (q,(resLine r,u)) () = some (true,(q.1,(q.2.1,(q.2.2.1,(q.2.2.2.1 ++ [r],(q.2.2.2.2.1,())))))):=by
  have hl:=res_len h
  have hsp:=fun u => Pe (ws:=hdRes :: Mu r) (by simp) (by unfold resLine at hl; omega) Ab6 u
  have e1:eqS hdRes [100,101,97,100,108,105,110,101] = false:=by decide
  have e3:eqS hdRes [114,101,115,111,117,114,99,101] = true:=by decide
  have ha:addI q.2.2.2.1 [r] = some (q.2.2.2.1 ++ [r]):=addI_ok (by rw [room_eq]; simp; omega)
  unfold Bs resLine
  simp only [hsp,Ad,lenI_eq,Rf,Rc,e1,e3,if_true,Bool.false_eq_true,if_false,Z9 h,ha]
theorem Aco {a:Ab} (hn:(32:UInt8) ∉ a.1):∀ w ∈ hdAct :: Iu a,(32:UInt8) ∉ w:=fun w hw => by
  simp only [Iu,List.mem_cons,List.cons_append,List.nil_append,List.mem_map] at hw
  rcases hw with rfl | rfl | rfl | ⟨m,hm,rfl⟩
  · decide
  · exact hn
  · exact itoa_no (by decide)
  · exact V4 (by decide) (by decide) (by decide) (not_dig (by decide))
theorem Ahr {q:Aa} {a:Ab} (h:ActG a) (hn:a.1.length <= 2) (hn2:(32:UInt8) ∉ a.1) (hq:q.2.1.length <= 100) (u:Unit):Bs (q,(actLine a,u)) () = some (true,(q.1,(q.2.1 ++ [a],q.2.2))):=by
  have hl:=act_len h hn
  have hsp:=fun u => Pe (ws:=hdAct :: Iu a) (by simp) (by unfold actLine at hl; omega) (Aco hn2) u
  have e1:eqS hdAct [100,101,97,100,108,105,110,101] = false:=by decide
  have e3:eqS hdAct [114,101,115,111,117,114,99,101] = false:=by decide
  have e4:eqS hdAct [115,116,111,99,107] = false:=by decide
  have e5:eqS hdAct [97,99,116,105,118,105,116,121] = true:=by decide
  have ha:addI q.2.1 [a] = some (q.2.1 ++ [a]):=addI_ok (by rw [room_eq]; simp; omega)
  unfold Bs actLine
  simp only [hsp,Ad,lenI_eq,Rf,Rc,e1,e3,e4,e5,if_true,Bool.false_eq_true,if_false,Zu h,ha]
theorem Ahg {p q:Aa} (hP:GenP 3 p) {k:D_Link} (hk:k ∈ p.2.2.1) (hq:q.2.1 = p.2.1) (hql:q.2.2.1.length <= 100) (u:Unit):Bs (q,(Lx k,u)) () = some (true,(q.1,(q.2.1,(q.2.2.1 ++ [k],q.2.2.2)))):=by
  obtain ⟨f,t,hg⟩:=link_g hP hk
  have hl:=lnk_len hg.g
  have ho:=Agg hP hk hq
  have hsp:=fun u => Pe (ws:=Jj k) (by simp [Jj]) (by unfold Lx at hl; omega) (by
    unfold Jj
    simp only [List.mem_cons,List.not_mem_nil,or_false]
    rintro w (rfl | rfl | rfl | rfl)
    · unfold Ig; split <;> decide
    · exact gen_no
    · exact gen_no
    · exact itoa_no (by decide)) u
  have ha:addI q.2.2.1 [k] = some (q.2.2.1 ++ [k]):=addI_ok (by rw [room_eq]; simp; omega)
  unfold Bs Lx
  unfold Jj at hsp ⊢
  obtain ⟨k1,k2,b,g,uu⟩:=k
  cases b with
  | true =>
    have e1:eqS (Ig true) [100,101,97,100,108,105,110,101] = false:=by decide
    have e3:eqS (Ig true) [114,101,115,111,117,114,99,101] = false:=by decide
    have e4:eqS (Ig true) [115,116,111,99,107] = false:=by decide
    have e5:eqS (Ig true) [97,99,116,105,118,105,116,121] = false:=by decide
    have e6:eqS (Ig true) [115,116,97,114,116] = false:=by decide
    have e7:eqS (Ig true) [101,110,100] = true:=by decide
    simp only [hsp,Ad,lenI_eq,Rf,Rc,e1,e3,e4,e5,e6,e7,if_true,Bool.false_eq_true,if_false,ho,ha]
  | false =>
    have e1:eqS (Ig false) [100,101,97,100,108,105,110,101] = false:=by decide
    have e3:eqS (Ig false) [114,101,115,111,117,114,99,101] = false:=by decide
    have e4:eqS (Ig false) [115,116,111,99,107] = false:=by decide
    have e5:eqS (Ig false) [97,99,116,105,118,105,116,121] = false:=by decide
    have e6:eqS (Ig false) [115,116,97,114,116] = true:=by decide
    have e7:eqS (Ig false) [101,110,100] = false:=by decide
    simp only [hsp,Ad,lenI_eq,Rf,Rc,e1,e3,e4,e5,e6,e7,if_true,Bool.false_eq_true,if_false,ho,ha]
open Go.Abs
set_option linter.unusedVariables false
set_option linter.unusedSimpArgs false
/-- lines that are read one after the other -/
inductive Rd:Aa -> List (List UInt8) -> Aa -> Prop
  | nil (q:Aa):Rd q [] q
  | cons {q q1 q2:Aa} {l:List UInt8} {ls:List (List UInt8)} (h:∀ u,Bs (q,(l,u)) () = some (true,q1)) (hr:Rd q1 ls q2):Rd q (l :: ls) q2
theorem Rd.append {q q1 q2:Aa} {l1 l2:List (List UInt8)} (h1:Rd q l1 q1) (h2:Rd q1 l2 q2):Rd q (l1 ++ l2) q2:=by
  induction h1 with
  | nil q => exact h2
  | cons h hr ih => exact .cons h (ih h2)
theorem rd_loop {q q2:Aa} {ls:List (List UInt8)} (h:Rd q ls q2) (hl:ls.length <= 100) (tx:List UInt8) (z:Aa) (A:Type) :
    loopN (A:=A) big E9 (0,((ls.length:Int),(ls,(tx,(q,(z,())))))) = some (.exit (Sum.inl (false,((ls.length:Int),((ls.length:Int),(ls,(tx,(q2,(z,()))))))))) :=by
  obtain ⟨o,ho,rfl⟩:=A5 (A:=A) (F:=E9) ls.length
    (fun j t => ∃ qj,t = ((j:Int),((ls.length:Int),(ls,(tx,(qj,(z,())))))) /\ Rd qj (ls.drop j) q2)
    (fun o => o = .exit (Sum.inl (false,((ls.length:Int),((ls.length:Int),(ls,(tx,(q2,(z,())))))))))
    (fun i s hi hI => by
      obtain ⟨qj,rfl,hR⟩:=hI
      unfold E9
      by_cases hlt:i < ls.length
      · have hd:ls.drop i = ls[i] :: ls.drop (i + 1):=by rw [List.drop_eq_getElem_cons hlt]
        rw [hd] at hR
        cases hR with
        | cons h hr =>
          simp only [lt_yes hlt,if_true,getI_lt hlt,Ad,h,A9,Bool.false_eq_true,if_false,idxN hlt (by omega:ls.length <= 1099511627776) (Nat.le_refl _)]
          exact ⟨_,rfl,hlt,_,rfl,hr⟩
      · obtain rfl:i = ls.length:=by omega
        rw [List.drop_length] at hR
        cases hR
        simp only [lt_no,Bool.false_eq_true,if_false]
        exact ⟨_,rfl,rfl⟩) (s:=(0,((ls.length:Int),(ls,(tx,(q,(z,()))))))) ⟨q,rfl,h⟩ (by unfold big; omega)
  exact ho
theorem rd_res {d:Int} {xs:List Ab} {ks:List D_Link} {ss:List Int}:∀ (rs r0:List Af),(∀ r ∈ rs,ResG r) -> r0.length + rs.length <= 100 -> Rd (d,(xs,(ks,(r0,(ss,()))))) (rs.map resLine) (d,(xs,(ks,(r0 ++ rs,(ss,())))))
  | [],r0,_,_ => by rw [List.append_nil]; exact .nil _
  | r :: rs,r0,h,hl => by
    have ih:=rd_res (d:=d) (xs:=xs) (ks:=ks) (ss:=ss) rs (r0 ++ [r]) (fun x hx => h x (by simp [hx])) (by simp at hl ⊢; omega)
    rw [List.append_assoc] at ih
    exact .cons (fun u => Agz (h r (by simp)) (by simp at hl ⊢; omega) u) ih
theorem rd_stk {d:Int} {xs:List Ab} {ks:List D_Link} {rs:List Af}:∀ (ss s0:List Int),(∀ n ∈ ss,0 <= n /\ n <= 100) -> s0.length + ss.length <= 100 -> Rd (d,(xs,(ks,(rs,(s0,()))))) (ss.map stkLine) (d,(xs,(ks,(rs,(s0 ++ ss,())))))
  | [],s0,_,_ => by rw [List.append_nil]; exact .nil _
  | n :: ss,s0,h,hl => by
    have ih:=rd_stk (d:=d) (xs:=xs) (ks:=ks) (rs:=rs) ss (s0 ++ [n]) (fun x hx => h x (by simp [hx])) (by simp at hl ⊢; omega)
    rw [List.append_assoc] at ih
    exact .cons (fun u => Aig (h n (by simp)) (by simp at hl ⊢; omega) u) ih
theorem rd_act {d:Int} {ks:List D_Link} {rs:List Af} {ss:List Int}:∀ (xs a0:List Ab),(∀ a ∈ xs,ActG a /\ a.1.length <= 2 /\ (32:UInt8) ∉ a.1) -> a0.length + xs.length <= 100 -> Rd (d,(a0,(ks,(rs,(ss,()))))) (xs.map actLine) (d,(a0 ++ xs,(ks,(rs,(ss,())))))
  | [],a0,_,_ => by rw [List.append_nil]; exact .nil _
  | a :: xs,a0,h,hl => by
    have ih:=rd_act (d:=d) (ks:=ks) (rs:=rs) (ss:=ss) xs (a0 ++ [a]) (fun x hx => h x (by simp [hx])) (by simp at hl ⊢; omega)
    rw [List.append_assoc] at ih
    exact .cons (fun u => Ahr (h a (by simp)).1 (h a (by simp)).2.1 (h a (by simp)).2.2 (by simp at hl ⊢; omega) u) ih
theorem rd_lnk {p:Aa} (hP:GenP 3 p) {d:Int} {rs:List Af} {ss:List Int}:∀ (ks k0:List D_Link),(∀ k ∈ ks,k ∈ p.2.2.1) -> k0.length + ks.length <= 100 -> Rd (d,(p.2.1,(k0,(rs,(ss,()))))) (ks.map Lx) (d,(p.2.1,(k0 ++ ks,(rs,(ss,())))))
  | [],k0,_,_ => by rw [List.append_nil]; exact .nil _
  | k :: ks,k0,h,hl => by
    have ih:=rd_lnk hP (d:=d) (rs:=rs) (ss:=ss) ks (k0 ++ [k]) (fun x hx => h x (by simp [hx])) (by simp at hl ⊢; omega)
    rw [List.append_assoc] at ih
    exact .cons (fun u => Ahg (q:=(d,(p.2.1,(k0,(rs,(ss,())))))) hP (h k (by simp)) rfl (by simp at hl ⊢; omega) u) ih
section
variable {p:Aa}
theorem rd_all (hP:GenP 3 p):Rd (0,([],([],([],([],()))))) (Cp p) p:=by
  have hal:=hP.al
  have hrl:=hP.rl
  have hsl:=hP.sl
  have hkl:=hP.kl
  have hdl:=hP.dl
  have h1:=rd_res (d:=p.1) (xs:=[]) (ks:=[]) (ss:=[]) p.2.2.2.1 [] (fun r hr => (hP.r r hr).g) (by simp; omega)
  have h2:=rd_stk (d:=p.1) (xs:=[]) (ks:=[]) (rs:=p.2.2.2.1) p.2.2.2.2.1 [] (fun n hn => by have:=hP.s n hn; omega) (by simp; omega)
  have h3:=rd_act (d:=p.1) (ks:=[]) (rs:=p.2.2.2.1) (ss:=p.2.2.2.2.1) p.2.1 [] (fun a ha => by
    obtain ⟨i,hi,rfl⟩:=List.mem_iff_getElem.1 ha
    refine ⟨(hP.a i hi).g (by omega) (by omega),?_,?_⟩ <;> rw [(hP.a i hi).name]
    · exact Fv i
    · exact gen_no) (by simp; omega)
  have h4:=rd_lnk hP (d:=p.1) (rs:=p.2.2.2.1) (ss:=p.2.2.2.2.1) p.2.2.1 [] (fun k hk => hk) (by simp; omega)
  exact .cons (q1:=(p.1,([],([],([],([],()))))) ) (fun u => line_dl (by omega) u) (h1.append (h2.append (h3.append h4)))
theorem Ae6 (hP:GenP 3 p):∀ x ∈ Cp p,(10:UInt8) ∉ x:=fun x hx => by
  have gn:∀ i,(10:UInt8) ∉ genName i:=fun i => by
    match i with
    | 0 | 1 | 2 | 3 | 4 | n + 5 => simp [genName]
  have jn:∀ ws:List (List UInt8),(∀ w ∈ ws,(10:UInt8) ∉ w) -> (10:UInt8) ∉ Lib.join ws [32]:=fun ws h hm => by
    rcases Vi hm with e | ⟨y,hy,e⟩
    · exact absurd e (by decide)
    · exact h y hy e
  unfold Cp at hx
  simp only [List.mem_cons,List.mem_append,List.mem_map] at hx
  rcases hx with rfl | ⟨r,hr,rfl⟩ | ⟨n,hn,rfl⟩ | ⟨a,ha,rfl⟩ | ⟨k,hk,rfl⟩
  · refine jn _ fun w hw => ?_
    simp only [List.mem_cons,List.not_mem_nil,or_false] at hw
    rcases hw with rfl | rfl
    · decide
    · exact itoa_no (by decide)
  · refine jn _ fun w hw => ?_
    unfold Mu at hw
    split at hw <;> simp only [List.mem_cons,List.not_mem_nil,or_false] at hw
    · rcases hw with rfl | rfl
      · decide
      · exact Vb (by decide) (by decide) (by decide) (not_dig (by decide))
    · rcases hw with rfl | rfl | rfl
      · decide
      · exact Vb (by decide) (by decide) (by decide) (not_dig (by decide))
      · exact ints_no (by decide) (by decide) (not_dig (by decide))
  · refine jn _ fun w hw => ?_
    simp only [List.mem_cons,List.not_mem_nil,or_false] at hw
    rcases hw with rfl | rfl
    · decide
    · exact itoa_no (by decide)
  · refine jn _ fun w hw => ?_
    obtain ⟨i,hi,rfl⟩:=List.mem_iff_getElem.1 ha
    simp only [Iu,List.mem_cons,List.cons_append,List.nil_append,List.mem_map] at hw
    rcases hw with rfl | rfl | rfl | ⟨m,hm,rfl⟩
    · decide
    · rw [(hP.a i hi).name]; exact gn i
    · exact itoa_no (by decide)
    · exact V4 (by decide) (by decide) (by decide) (not_dig (by decide))
  · refine jn _ fun w hw => ?_
    unfold Jj at hw
    simp only [List.mem_cons,List.not_mem_nil,or_false] at hw
    rcases hw with rfl | rfl | rfl | rfl
    · unfold Ig; split <;> decide
    · exact gn _
    · exact gn _
    · exact itoa_no (by decide)
theorem Z6 (hP:GenP 3 p) (u:Unit):Ia (K4 p,u) () = some (Cp p,()):=by
  have hn:=lines_n hP
  have hl:=Ahi hP
  have hj:K4 p = Lib.join (Cp p ++ [[]]) [10]:=by
    unfold K4 Cp
    rw [List.cons_append,Lib.join_cons,Lib.join_cons]
    simp [Lib.joinTail]
  have hsp:=L9 (K4 p) 10 () (by omega)
  rw [show splR 10 (K4 p) = Cp p ++ [[]] from ?_] at hsp
  · have hlen:((Cp p ++ [[]]).length:Int) = ((Cp p).length + 1:Nat):=by simp
    have hs:subZ .i64 ((Cp p ++ [[]]).length:Int) 1 = ((Cp p).length:Int):=by rw [hlen,subZ64 (by omega) (by omega)]; omega
    have hg:getI (Cp p ++ [[]]) ((Cp p).length:Int) = some []:=by rw [getI_lt (by simp)]; simp
    have hc:cutI (Cp p ++ [[]]) 0 ((Cp p).length:Int) = some (Cp p):=by
      rw [show (0:Int) = ((0:Nat):Int) from rfl,cut_gen (by omega) (by simp)]
      simp
    have he:eqS ([]:List UInt8) [] = true:=rfl
    unfold Ia
    simp only [hsp,Ad,lenI_eq,hs,hg,he,if_true,hc]
  · rw [hj]
    refine Oa (by simp) fun w hw => ?_
    rcases List.mem_append.1 hw with hw | hw
    · exact Ae6 hP w hw
    · simp at hw
      subst hw
      simp
theorem Xk (hP:GenP 3 p) (u:Unit):Fn (K4 p,u) () = some ((p,(true,())),()):=by
  have hn:=lines_n hP
  have hF:=fun u => Qp hP u
  have hne:eqS (K4 p) [] = false:=by
    cases he:eqS (K4 p) [] with
    | false => rfl
    | true =>
      have:K4 p = []:=by simpa [eqS] using he
      unfold K4 at this
      simp at this
  unfold Fn
  simp only [Z6 hP,Ad,lenI_eq,rd_loop (rd_all hP) (by omega),hne,Bool.false_eq_true,if_false,hF,Re,A9]
end
theorem Ym (b:List Int) (u:Unit):L7 (b,u) () = some (true,()):=by
  unfold L7
  by_cases hcc:ltZ 1048576 (lenI b) = true
  · simp only [hcc,if_true]
  have hc:ltZ 1048576 (lenI b) = false:=by cases h:ltZ 1048576 (lenI b) with | false => rfl | true => exact absurd h hcc
  have hb:b.length <= 1048576:=by
    rw [Bool.eq_false_iff,Ne,ltZ_iff,lenI_eq] at hc
    omega
  obtain ⟨p,hP,e1⟩:=Xi b hb
  obtain ⟨st,md,hS,e2⟩:=Zt b hb p (hP.mono (by omega))
  obtain ⟨l,i,v,hL,e3⟩:=Adv b hb p (hP.mono (by omega)) 1
  obtain ⟨r,hR,e4⟩:=Abu b hb p hP
  have hal:=hP.al
  have sm:=hP.sm (by omega) (B:=1099511627776) (by omega)
  have f1:=fun u => Qp hP u
  have f2:=fun u => Xk hP u
  have f3:=fun u => P9 hP hS u
  have f4:=fun u => V7 hP hS u
  have f5:=fun u => Qt hP hL u
  have f6:=fun u => W4 hP hL u
  obtain ⟨m,f7⟩:=Wy hP ()
  have f8:=fun u => Ue p u sm
  have f9:=fun u => Vo hP hS u
  have f10:=fun u => I3 p u sm
  have hpj:=hP.ok (by omega)
  obtain ⟨ok,hok,hrd⟩:=Agt hP hR
  have h5:eqZ (([(p.2.1.length:Int),m,(p.2.2.1.length:Int),(p.2.2.2.1.length:Int),(p.2.2.2.2.1.length:Int)]:List Int).length:Int) 5 = true:=rfl
  have g0:getI [(p.2.1.length:Int),m,(p.2.2.1.length:Int),(p.2.2.2.1.length:Int),(p.2.2.2.2.1.length:Int)] (0:Int) = some (p.2.1.length:Int):=rfl
  have ga:getI p.2.1 (0:Int) = some p.2.1[0]:=getI_lt (i:=0) (by omega)
  have fi:∀ u,Ax (p,(p.2.1[0].1,u)) () = some (0,()):=fun u => by
    rw [Gl p _ _ (by omega),(hP.a 0 (by omega)).name,Qh hP (by omega) (by omega)]
    rfl
  have iT:∀ x y:Bool,iteB true x y = x:=fun _ _ => rfl
  have hloop:∀ A:Type,loopN (A:=A) big Jm (0,((p.2.2.1.length:Int),(([]:List Int),(p,(p,()))))) = some (.exit (Sum.inl (false,((p.2.2.1.length:Int),((p.2.2.1.length:Int),(([]:List Int),(p,(p,())))))))):=fun A => by
    have hkl:=hP.kl
    obtain ⟨o,ho,rfl⟩:=A5 (A:=A) (F:=Jm) p.2.2.1.length
      (fun j t => t = ((j:Int),((p.2.2.1.length:Int),(([]:List Int),(p,(p,()))))))
      (fun o => o = .exit (Sum.inl (false,((p.2.2.1.length:Int),((p.2.2.1.length:Int),(([]:List Int),(p,(p,()))))))))
      (fun i s hi hI => by
        subst hI
        unfold Jm
        by_cases hlt:i < p.2.2.1.length
        · have hd:List.headD (([]:List Int) ++ ((i:Int) :: [])) 0 = (i:Int):=rfl
          have hne:eqS (Lib.join (Jj p.2.2.1[i]) [32]) [] = false:=by
            cases he:eqS (Lib.join (Jj p.2.2.1[i]) [32]) [] with
            | false => rfl
            | true => exact absurd (by simpa [eqS] using he) (Zy p.2.2.1[i])
          simp only [lt_yes hlt,if_true,getI_lt hlt,Ad,hd,Aa7 hP (List.getElem_mem hlt),hne,Bool.false_eq_true,if_false,idxN hlt (by omega:p.2.2.1.length <= 1099511627776) (Nat.le_refl _)]
          exact ⟨_,rfl,hlt,rfl⟩
        · obtain rfl:i = p.2.2.1.length:=by omega
          simp only [lt_no,Bool.false_eq_true,if_false]
          exact ⟨_,rfl,rfl⟩) (s:=(0,((p.2.2.1.length:Int),(([]:List Int),(p,(p,())))))) rfl (by unfold big; omega)
    exact ho
  have hz:eqZ 0 0 = true:=rfl
  have hB:∀ x:Bool,eqB x x = true:=fun x => by cases x <;> rfl
  cases ok with
  | true =>
    have r1:=fun u => Ur hP hR hok (hrd rfl) u
    have r2:=fun u => Abw hP hR hok (hrd rfl) u
    simp only [hc,Bool.false_eq_true,if_false,e1,e2,e3,e4,f1,f2,f3,f4,f5,f6,f7,f8,f9,f10,hpj,r1,r2,hok,Ad,A9,Ir,iT,if_true,hB,lenI_eq,h5,g0,hloop,ga,fi,hz]
    exact ite_self _
  | false =>
    have r1:=fun u => Yp hok u
    have r2:=fun u => Zr p u
    simp only [hc,Bool.false_eq_true,if_false,e1,e2,e3,e4,f1,f2,f3,f4,f5,f6,f7,f8,f9,f10,hpj,r1,r2,hok,Ad,A9,Ir,iT,if_true,hB,lenI_eq,h5,g0,hloop,ga,fi,hz]
    exact ite_self _
theorem Afg (x:Ty.dens D6.ps) (h:Ty.fits D6.ps x):L7 x () = some (true,()):=by
  obtain ⟨b,u⟩:=x
  exact Ym b u
end Go.Proofs.YtbkefganebmlnaaGreatDoor
