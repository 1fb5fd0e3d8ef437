/-
  The meta layer, part 6: addresses and values at places: copied, loaded, followed to fields and elements.
-/
import Derived.Test.YtbkefganebmlnaaGreatDoorN5
namespace Go.Abs
open Go.RowKit
set_option linter.unusedVariables false
set_option linter.unusedSimpArgs false
theorem Addr.add_mk (b off k:Nat):(⟨b,off,none⟩:Addr).add k = ⟨b,off + k,none⟩:=by
 unfold Addr.add; split
 ·rename_i h; subst h; rfl
 ·rfl
theorem Ty.subT_sub {t0 t:Ty} {q:List PStep} {get:t0.den -> List Int -> Option t.den} {set:t0.den -> List Int -> t.den -> t0.den} (h:t0.subT q t = some (get,set)):t0.sub q = some ⟨t,get,set⟩:=by
 unfold Ty.subT at h
 split at h
 ·rename_i t' gs hs
  split at h
  ·rename_i k _
   subst k
   cases h
   exact hs
  ·cases h
 ·cases h
theorem look_eq {S:Type} {g:Nat -> Ex S} {p:Plc S} {k:Lk S p.t} (hk:look g p = some k) :
  ∃ (m:Md) (f:S -> p.t0.den) (get:p.t0.den -> List Int -> Option p.t.den) (set:p.t0.den -> List Int -> p.t.den -> p.t0.den),
   k = ⟨p.i,p.t0,m,p.q,f,p.is,get,set⟩ /\ g p.i = ⟨.val p.t0 m,f⟩ /\ p.t0.sub p.q = some ⟨p.t,get,set⟩ /\ m.own p.q = true /\ p.t0.cell = true:=by
 obtain ⟨i,t0,q,t,is⟩:=p
 unfold look at hk
 split at hk
 ·rename_i t0' m f hg
  split at hk
  ·rename_i e _
   simp only at e
   subst e
   split at hk
   ·rename_i get set hs
    split at hk
    ·rename_i hc
     simp only [Bool.and_eq_true] at hc
     cases hk
     exact ⟨m,f,get,set,rfl,hg,Ty.subT_sub hs,hc.1,hc.2⟩
    ·cases hk
   ·cases hk
  ·cases hk
 ·cases hk
theorem Ma {w:World} {U:List Nat} {n:Nat}:∀ (q:List PStep) {t:Ty} {L:Loc} {is:List Int} {ts:List Ty} {L1:Loc} {t':Ty} {gs:(Ty.dens ts -> t'.den) × (Ty.dens ts -> t'.den -> Ty.dens ts)},
  res w U t L q is = some (.st ts,L1) -> fld ts n = some ⟨t',gs⟩ -> res w U t L (q ++ [.fld n]) is = some (t',L1.sub (offs ts n) t'.size)
 | [],t,L,is,ts,L1,t',gs,h,hf => by
  cases is with
  | nil =>
   have e:t = .st ts /\ L = L1:=by cases t <;> simp [res] at h ⊢ <;> exact h
   obtain ⟨rfl,rfl⟩:=e
   simp only [List.nil_append,res,hf]
  | cons i is => cases t <;> simp [res] at h
 | .fld k :: q,t,L,is,ts,L1,t',gs,h,hf => by
  cases t <;> simp only [res] at h <;> try (cases h; done)
  simp only [List.cons_append,res]
  split at h
  ·exact Ma q h hf
  ·cases h
 | .idx :: q,t,L,is,ts,L1,t',gs,h,hf => by
  cases is with
  | nil => cases t <;> simp [res] at h
  | cons i is =>
   cases t <;> simp only [res] at h <;> try (cases h; done)
   simp only [List.cons_append,res]
   split at h
   ·split at h
    ·rename_i hb; rw [if_pos hb]; exact Ma q h hf
    ·cases h
   ·cases h
 | .drf :: q,t,L,is,ts,L1,t',gs,h,hf => by
  cases t <;> simp only [res] at h <;> try (cases h; done)
  simp only [List.cons_append,res]
  split at h
  ·split at h
   ·rename_i hb; rw [if_pos hb]; exact Ma q h hf
   ·cases h
  ·cases h
theorem Om {w:World} {U:List Nat} {j:Int} {b n c:Nat} (hb:b ∈ U) (hj:0 <= j /\ j < n):∀ (q:List PStep) {t:Ty} {L:Loc} {is:List Int} {e:TypeId} {t':Ty} {L1:Loc},
  res w U t L q is = some (.sl e t',L1) -> L1.head w = some (.slice (some ⟨b,0,none⟩) n c) -> res w U t L (q ++ [.idx]) (is ++ [j]) = some (t',.mem b (j.toNat * t'.size))
 | [],t,L,is,e,t',L1,h,hf => by
  cases is with
  | nil =>
   have e:t = .sl e t' /\ L = L1:=by cases t <;> simp [res] at h ⊢ <;> exact h
   obtain ⟨rfl,rfl⟩:=e
   simp only [List.nil_append,res,hf]
   rw [if_pos ⟨hb,hj⟩]
  | cons i is => cases t <;> simp [res] at h
 | .fld k :: q,t,L,is,e,t',L1,h,hf => by
  cases t <;> simp only [res] at h <;> try (cases h; done)
  simp only [List.cons_append,res]
  split at h
  ·exact Om hb hj q h hf
  ·cases h
 | .idx :: q,t,L,is,e,t',L1,h,hf => by
  cases is with
  | nil => cases t <;> simp [res] at h
  | cons i is =>
   cases t <;> simp only [res] at h <;> try (cases h; done)
   simp only [List.cons_append,res]
   split at h
   ·split at h
    ·rename_i hb'; rw [if_pos hb']; exact Om hb hj q h hf
    ·cases h
   ·cases h
 | .drf :: q,t,L,is,e,t',L1,h,hf => by
  cases t <;> simp only [res] at h <;> try (cases h; done)
  simp only [List.cons_append,res]
  split at h
  ·split at h
   ·rename_i hb'; rw [if_pos hb']; exact Om hb hj q h hf
   ·cases h
  ·cases h
section
variable {C:Cx} {fr:Fr} {a:Act} {w:World} {P:Prot} {T:Nat -> List Nat}
theorem Sim.root (h:Sim C fr a w P T) {i:Nat} {t:Ty} {m:Md} {f:Unit -> t.den} (hi:fr i = ⟨.val t m,f⟩):i ∈ slots C.n /\ RepV C.M t w P m (f ()) (C.at a w i) (T i):=by
 have hin:i ∈ slots C.n:=h.lt_of (by rw [hi]; simp)
 have:=h.rep i
 rw [hi] at this
 exact ⟨hin,this⟩
theorem adr_rep (h:Sim C fr a w P T) {x:Operand} {p:Plc Unit} (hp:adrOf x (opx fr x) = some p) :
  ∃ b off,a.eval x = .pointer (some ⟨b,off,none⟩) /\ resT w (C.at a w) T p.i p.t0 p.q (p.is ()) = some (p.t,.mem b off):=by
 obtain ⟨Tx,hr,hT⟩:=opx_rep h x
 generalize hex:opx fr x = ex at hp hr
 obtain ⟨e,f⟩:=ex
 cases e <;> simp only [adrOf] at hp <;> try (cases hp; done)
 case val t m =>
  cases t <;> try (cases hp; done)
  cases m <;> try (cases hp; done)
  rename_i t c
  simp only at hp
  split at hp
  ·rename_i i hi
   cases hp
   have hTx:Tx = T i:=by
    rcases hT i hi with h' | ⟨_,h'⟩
    ·exact h'
    ·rcases h' with h' | h'
     ·have hx:=Mv hi
      subst hx
      have hh:opx fr (.tmp i) = Ex.non:=by
       simp only [opx,h']
       split <;> rfl
      rw [hh] at hex
      exact absurd (congrArg Sigma.fst hex) (by simp [Ex.non])
     ·rw [h'] at hex
      exact absurd (congrArg Sigma.fst hex) (by simp [Ex.non])
   have hlt:i < gB:=opx_g (fr:=fr) (fun e => by rw [hex] at e; exact absurd (congrArg Sigma.fst e) (by simp [Ex.non])) hi
   simp only [RepE,RepV] at hr
   obtain ⟨b,cells,Tc,e,h1,h2,h3,h4,h5,h6⟩:=hr
   have hx:=Mv hi
   subst hx
   refine ⟨b,0,h1,?_⟩
   have h1':C.at a w i = .pointer (some ⟨b,0,none⟩):=(Cx.at_n hlt).trans h1
   simp only [resT,h1',Value.cells,res,Loc.head]
   rw [<- hTx,h5]
   simp
  ·cases hp
 case pl i t0 q t =>
  cases hp
  obtain ⟨_,b,off,h1,h2⟩:=hr
  exact ⟨b,off,h1,h2⟩
theorem vlu_rep (h:Sim C fr a w P T) {x:Operand} {p:Plc Unit} (hp:vluOf x (opx fr x) = some p) {m:Md} {f:Unit -> p.t0.den} (hroot:fr p.i = ⟨.val p.t0 m,f⟩) (hcell:p.t0.cell = true) :
  ∃ L cs,a.eval x = valOf p.t cs /\ resT w (C.at a w) T p.i p.t0 p.q (p.is ()) = some (p.t,L) /\ L.is w cs /\ cs.length = p.t.size:=by
 obtain ⟨hin,hrv⟩:=h.root hroot
 obtain ⟨k1,k2⟩:=Bb _ hcell hrv
 obtain ⟨Tx,hr,hT⟩:=opx_rep h x
 generalize hex:opx fr x = ex at hp hr
 obtain ⟨e,g⟩:=ex
 cases e
 case non => cases hp
 case kb => cases hp
 case und => cases hp
 case pa => cases hp
 case pb => cases hp
 case val t m' =>
  cases hi:slotOf x with
  | none => simp only [vluOf,hi] at hp; cases hp
  | some i =>
   simp only [vluOf,hi] at hp
   cases hp
   have hlt:i < gB:=opx_g (fr:=fr) (fun e => by rw [hex] at e; exact absurd (congrArg Sigma.fst e) (by simp [Ex.non])) hi
   have hx:=Mv hi
   subst hx
   have e0:C.at a w i = a.eval (.tmp i):=Cx.at_n hlt
   exact ⟨.vals (C.at a w i).cells.toList,_,e0.symm.trans k2.symm,by simp only [resT]; cases t <;> rfl,rfl,(RepC.length _ k1).1⟩
 case av i t0 q t =>
  cases hp
  obtain ⟨_,L,cs,h1,h2,h3,h4⟩:=hr
  exact ⟨L,cs,h4,h1,h2,h3⟩
 case pl i t0 q t =>
  cases t0 <;> try (simp [vluOf] at hp; done)
  rename_i t'
  rcases q with _ | ⟨s,_ | ⟨s',q'⟩⟩
  ·simp [vluOf] at hp
  ·cases s <;> try (simp [vluOf] at hp; done)
   simp only [vluOf,Option.some.injEq] at hp
   subst hp
   obtain ⟨_,b,off,h1,h2⟩:=hr
   refine ⟨.vals (C.at a w i).cells.toList,_,?_,rfl,rfl,(RepC.length _ k1).1⟩
   show a.eval x = valOf (.ptr t') (C.at a w i).cells.toList
   rw [show valOf (.ptr t') (C.at a w i).cells.toList = C.at a w i from k2,h1]
   have hrv':=hrv
   simp only [RepV] at hrv'
   obtain ⟨ad,hv⟩:=hrv'.one
   have hv:C.at a w i = .pointer ad:=hv
   simp only [resT,hv,Value.cells,res,Loc.head] at h2
   split at h2
   ·rename_i b' heq
    split at h2
    ·have heq:ad = some ⟨b',0,none⟩:=by simpa using heq
     have h2':t' = t /\ b' = b /\ 0 = off:=by
      cases hg:(g ():List Int) with
      | nil =>
       have h2:res w (T i) t' (.mem b' 0) [] (g ():List Int) = some (t,.mem b off):=h2
       rw [hg] at h2
       cases t' <;> simpa [res] using h2
      | cons i is =>
       have h2:res w (T _) t' (.mem b' 0) [] (g ():List Int) = some (t,.mem b off):=h2
       rw [hg] at h2
       cases t' <;> simp [res] at h2
     obtain ⟨_,rfl,rfl⟩:=h2'
     rw [hv,heq]
    ·cases h2
   ·cases h2
  ·cases s <;> simp [vluOf] at hp
theorem Sim.focus (h:Sim C fr a w P T) {i:Nat} {t0 t:Ty} {m:Md} {f:Unit -> t0.den} {q:List PStep} {get:t0.den -> List Int -> Option t.den} {set:t0.den -> List Int -> t.den -> t0.den} {is:List Int} {y:t.den} {L:Loc}
  (hi:fr i = ⟨.val t0 m,f⟩) (hs:t0.sub q = some ⟨t,get,set⟩) (ho:m.own q = true) (hc:t0.cell = true) (hy:get (f ()) is = some y) (hL:resT w (C.at a w) T i t0 q is = some (t,L)) :
  i ∈ slots C.n /\ ∃ cs T1 T' T2 at_,valOf t0 (C.at a w i).cells.toList = C.at a w i /\ Foc C.M w P t0 t m q is (f ()) y set (C.at a w i).cells.toList cs (T i) T1 T' T2 at_ /\ L = at_ (.vals (C.at a w i).cells.toList) /\ L.is w cs:=by
 obtain ⟨hin,hrv⟩:=h.root hi
 obtain ⟨k1,k2⟩:=Bb _ hc hrv
 have hlen:=(res_inU _ (L:=.vals _) trivial hL).2
 obtain ⟨cs,T1,T',T2,at_,F⟩:=Ty.sub_focus q hs k1 ho hy hlen (h.nodup i)
 obtain ⟨l1,l2⟩:=F.loc (.vals (C.at a w i).cells.toList) (T i) rfl fun _ hb => hb
 have:L = at_ (.vals (C.at a w i).cells.toList):=by
  have:=hL.symm.trans l1
  simpa using this
 exact ⟨hin,cs,T1,T',T2,at_,k2,F,this,this ▸ l2⟩
theorem op_nil {Q:Exit -> Act -> World -> Prop} (h:Sim C fr a w P T) {o:Oper} {x:Operand} (ho:o.op = .nilCheck x)
  {r:Res Unit} (hs:sNil x (opx fr x) = some r) {pin:Nat -> Bool} {ds:List Nat} (hc:OpC C pin ds fr o.dst r) {z:r.X}:Goal C fr a w o Q r z:=by
 have hopen:∀ b off,a.eval x = .pointer (some ⟨b,off,none⟩) -> (execOp a.eval o).run C.M w = .ok (.value (.pointer (some ⟨b,off,none⟩))) w:=by
  intro b off hv
  simp [execOp,ho,hv]
 obtain ⟨Tx,hrep,hTx⟩:=opx_rep h x
 unfold sNil at hs
 split at hs
 ·rename_i t f heq
  rw [heq] at hrep
  cases hs
  simp only [RepE,RepV] at hrep
  obtain ⟨_,b,off,cs,hv,h1,h2⟩:=hrep
  refine h.plain hc (hopen _ _ hv) rfl ?_
  simp only [RepE,RepV]
  exact ⟨rfl,b,off,cs,rfl,h1,h2⟩
 ·rename_i i t0 q t f heq
  rw [heq] at hrep
  cases hs
  obtain ⟨_,L,cs,b,off,h1,h2,h3,hv,h4⟩:=hrep
  exact h.plain hc (hopen _ _ hv) rfl ⟨rfl,L,cs,b,off,h1,h2,h3,rfl,h4⟩
 ·rename_i k t f heq
  rw [heq] at hrep
  cases hs
  obtain ⟨_,b,n,h1,hv,h2⟩:=hrep
  exact h.plain hc (hopen _ _ hv) rfl ⟨rfl,b,n,h1,rfl,h2⟩
 ·split at hs
  ·rename_i p hp
   cases hs
   obtain ⟨b,off,h1,h2⟩:=adr_rep h hp
   exact h.plain hc (hopen _ _ h1) rfl ⟨rfl,b,off,rfl,h2⟩
  ·cases hs
theorem fld_get:∀ {ts:List Ty} {j:Nat} {t:Ty} {gs:(Ty.dens ts -> t.den) × (Ty.dens ts -> t.den -> Ty.dens ts)},fld ts j = some ⟨t,gs⟩ -> ts[j]? = some t
 | [],_,_,_,h => by cases h
 | t :: ts,0,_,_,h => by simp only [fld,Option.some.injEq,Sigma.mk.injEq] at h; simp [h.1]
 | t :: ts,j + 1,_,_,h => by
  simp only [fld] at h
  split at h
  ·rename_i t' g s hf
   simp only [Option.some.injEq,Sigma.mk.injEq] at h
   simp only [List.getElem?_cons_succ]
   rw [fld_get hf,h.1]
  ·cases h
theorem fld_le:∀ {ts:List Ty} {j:Nat} {t:Ty} {gs:(Ty.dens ts -> t.den) × (Ty.dens ts -> t.den -> Ty.dens ts)},fld ts j = some ⟨t,gs⟩ -> offs ts j + t.size <= Ty.sizes ts
 | [],_,_,_,h => by cases h
 | t :: ts,0,_,_,h => by
  simp only [fld,Option.some.injEq,Sigma.mk.injEq] at h
  obtain ⟨rfl,_⟩:=h
  simp [offs,Ty.sizes]
 | t :: ts,j + 1,_,_,h => by
  simp only [fld] at h
  split at h
  ·rename_i t' g s hf
   simp only [Option.some.injEq,Sigma.mk.injEq] at h
   obtain ⟨rfl,_⟩:=h
   have:=fld_le hf
   simp only [offs,Ty.sizes]
   omega
  ·cases h
theorem Pw {M:Program} {w:World} {t:TypeId} {ts:List Ty} (hk:TyOk M t (.st ts)) {j:Nat} {τ:Ty} (hj:ts[j]? = some τ) (b off:Nat) :
  (Instr.fieldAt t (.pointer (some ⟨b,off,none⟩)) j).run M w = .ok (.pointer (some ⟨b,off + offs ts j,none⟩)) w:=by
 obtain ⟨fs,hu,_,_,_,hf⟩:=hk
 obtain ⟨f,d,h1,h2,_,h3,_,h4,_⟩:=hf j τ hj
 cases hi:M.info? f.type with
 | none => rw [hi] at h4; cases h4
 | some i =>
  rw [hi] at h4
  have hs:i.size = τ.size:=by simpa using h4
  have hne:i.size ≠ 0:=by omega
  simp [Instr.fieldAt,run_underlying hu,h1,Instr.sureAddr,fieldPlace,sizeOf,typeInfo,hi,hne,Addr.add_mk,h2]
theorem RepCs.part {M:Program} {w:World} {P:Prot} {ts:List Ty} {j:Nat} {t:Ty} {g:Ty.dens ts -> t.den} {s:Ty.dens ts -> t.den -> Ty.dens ts} (hf:fld ts j = some ⟨t,g,s⟩) {x:Ty.dens ts} {cs:List Value} (hr:RepCs M ts w P .p x cs []) :
  RepC M t w P .p (g x) ((cs.drop (offs ts j)).take t.size) [] /\ offs ts j + t.size <= cs.length:=by
 obtain ⟨c1,c2,c3,T1,T2,T3,rfl,hT,k1,k2,k3,k4⟩:=RepCs.splitW hf hr
 have hT2:T2 = []:=by
  have:=List.append_eq_nil_iff.1 hT.symm
  exact (List.append_eq_nil_iff.1 this.2).1
 subst hT2
 have hm:∀ (n:Nat),Md.nth .p n = .p:=by intro n; induction n with | zero => rfl | succ n ih => exact ih
 rw [hm] at k2
 have hl:=(RepC.length t k2).1
 refine ⟨?_,by simp only [List.length_append]; omega⟩
 rw [<- k1,List.drop_left,<- hl,List.take_left]
 exact k2
theorem Agf {Q:Exit -> Act -> World -> Prop} (h:Sim C fr a w P T) {o:Oper} {t:TypeId} {x:Operand} {j:Nat} (ho:o.op = .fieldAddr t x j)
  {Tb:Tab} (hT:TabOk C.M Tb) (his:Tb.isA t (opx fr x).1 = true) {r:Res Unit} (hs:sField x j (opx fr x) = some r) {pin:Nat -> Bool} {ds:List Nat} (hc:OpC C pin ds fr o.dst r) {z:r.X}:Goal C fr a w o Q r z:=by
 have hopen:∀ v u,a.eval x = v -> (Instr.fieldAt t v j).run C.M w = .ok u w -> (execOp a.eval o).run C.M w = .ok (.value u) w:=by
  intro v u hv hr
  simp [execOp,ho,hv,hr]
 obtain ⟨Tx,hrep,hTx⟩:=opx_rep h x
 unfold sField at hs
 split at hs
 ·rename_i ts f heq
  rw [heq] at hrep his
  have hk:=(Tab.of_isA hT his rfl).kind
  split at hs
  ·rename_i τ get set hf
   cases hs
   simp only [RepE,RepV] at hrep
   obtain ⟨_,b,off,cs,hv,hrc,hcl⟩:=hrep
   simp only [RepC] at hrc
   obtain ⟨k1,k2⟩:=RepCs.part hf hrc
   refine h.plain hc (hopen _ _ hv (Pw hk (fld_get hf) b off)) rfl ?_
   simp only [RepE,RepV]
   refine ⟨rfl,b,_,_,rfl,k1,fun q v hq => ?_⟩
   rw [List.getElem?_take] at hq
   split at hq
   ·rw [List.getElem?_drop] at hq
    have:=hcl _ v hq
    rwa [<- Nat.add_assoc] at this
   ·cases hq
  ·cases hs
 ·rename_i i t0 q ts f heq
  rw [heq] at hrep his
  have hk:=(Tab.of_isA hT his rfl).kind
  split at hs
  ·rename_i τ get set hf
   cases hs
   obtain ⟨_,L,cs,b,off,h1,h2,h3,hv,h4⟩:=hrep
   have hle:offs ts j + τ.size <= cs.length:=by
    rw [h3]
    exact fld_le hf
   refine h.plain hc (hopen _ _ hv (Pw hk (fld_get hf) b off)) rfl ⟨rfl,L.sub (offs ts j) τ.size,(cs.drop (offs ts j)).take τ.size,b,off + offs ts j,Ma q h1 hf,?_,by simp; omega,rfl,fun q v hq => ?_⟩
   ·cases L with
    | vals l => show (l.drop _).take _ = _; rw [show l = cs from h2]
    | mem b' o' =>
     intro q v hq
     rw [List.getElem?_take] at hq
     split at hq
     ·rw [List.getElem?_drop] at hq
      have:=h2 _ v hq
      rwa [<- Nat.add_assoc] at this
     ·cases hq
   ·rw [List.getElem?_take] at hq
    split at hq
    ·rw [List.getElem?_drop] at hq
     have:=h4 _ v hq
     rwa [<- Nat.add_assoc] at this
    ·cases hq
  ·cases hs
 ·rename_i o' ts f heq
  rw [heq] at hrep his
  have hk:=(Tab.of_isA hT his rfl).kind
  obtain ⟨_,b,n,h1,h2,h3⟩:=hrep
  split at hs
  ·rename_i τ get set hf
   cases hs
   have hle:=fld_le hf
   have h3:o' + Ty.sizes ts <= n:=h3
   exact h.plain hc (hopen _ _ h2 (Pw hk (fld_get hf) b o')) rfl ⟨rfl,b,n,h1,rfl,by omega⟩
  ·cases hs
 ·split at hs
  ·rename_i i t0 q ts f hp
   obtain ⟨b,off,h1,h2⟩:=adr_rep h hp
   have hty:(opx fr x).1.tyA = some (.st ts):=by
    generalize opx fr x = ex at hp
    obtain ⟨e,f⟩:=ex
    cases e <;> simp only [adrOf] at hp <;> try (cases hp; done)
    case val t m =>
     cases t <;> try (cases hp; done)
     cases m <;> try (cases hp; done)
     simp only at hp
     split at hp
     ·cases hp; rfl
     ·cases hp
    case pl => cases hp; rfl
   have hk:=(Tab.of_isA hT his hty).kind
   split at hs
   ·rename_i τ get set hf
    cases hs
    exact h.plain hc (hopen _ _ h1 (Pw hk (fld_get hf) b off)) rfl ⟨rfl,b,_,rfl,by have:=Ma (n:=j) q h2 hf; exact this⟩
   ·cases hs
  ·cases hs
theorem Jk {M:Program} {w:World} {P:Prot} {t:TypeId} {ty:Ty} (hk:TnOk M t ty) {cs:List Value} (hl:cs.length = ty.size) {b off:Nat}
  (hc:CellsIn w b off cs):(loadVar t ⟨b,off,none⟩).run M w = .ok (valOf ty cs) w:=by
 obtain ⟨i,hi,hs,_⟩:=hk.info
 have hkind:=hk.kind
 have one:∀ d,M.underlying t = some d -> (∀ fs,d ≠ .struct fs) -> (∀ k e,d ≠ .array k e) -> ty.size = 1 -> (∀ cs,valOf ty cs = cs.headD undef) -> (loadVar t ⟨b,off,none⟩).run M w = .ok (valOf ty cs) w:=by
  intro d hd h1 h2 h3 h4
  rw [h3] at hl
  obtain ⟨v,rfl⟩:=List.length_eq_one_iff.1 hl
  have hv:=hc 0 v rfl
  rw [Nat.add_zero] at hv
  rw [h4]
  have hagg:(isAgg t).run M w = .ok false w:=by
   cases d <;> simp_all [isAgg,run_underlying hd]
  simp [loadVar,hagg,hv]
 cases ty with
 | st ts =>
  obtain ⟨fs,hu,_⟩:=hkind
  have hl':cs.length = i.size:=by rw [hl,hs]
  have hlc:=run_loadCells_list (P:=M) w ⟨b,off,none⟩ cs (fun j v hj => by rw [Addr.add_mk]; exact hc j v hj)
  have hagg:(isAgg t).run M w = .ok true w:=by simp [isAgg,run_underlying hu]
  simp only [loadVar,Sem.run_bind,hagg,Result.andThen_ok,if_true,sizeOf,typeInfo,run_program,hi,Sem.run_pure,valOf]
  rw [<- hl']
  simp [hlc]
 | int k => exact one _ hkind (by simp) (by simp) rfl (fun _ => rfl)
 | bool => exact one _ hkind (by simp) (by simp) rfl (fun _ => rfl)
 | str => exact one _ hkind (by simp) (by simp) rfl (fun _ => rfl)
 | sl e τ => exact one _ hkind.1 (by simp) (by simp) rfl (fun _ => rfl)
 | fn ps r => obtain ⟨x,y,z,hu⟩:=hkind; exact one _ hu (by simp) (by simp) rfl (fun _ => rfl)
 | ptr t => obtain ⟨e,hu⟩:=hkind; exact one _ hu (by simp) (by simp) rfl (fun _ => rfl)
 | tup ts => exact hkind.elim
theorem Q7 {Q:Exit -> Act -> World -> Prop} (h:Sim C fr a w P T) {o:Oper} {p:Plc Unit} {L:Loc} (hL:resT w (C.at a w) T p.i p.t0 p.q (p.is ()) = some (p.t,L))
  (hrun:∀ y cs,RepC C.M p.t w P .p y cs [] \/ True -> L.is w cs -> cs.length = p.t.size -> (execOp a.eval o).run C.M w = .ok (.value (valOf p.t cs)) w)
  {r:Res Unit} (hs:atPlace fr p = some r) {pin:Nat -> Bool} {ds:List Nat} (hc:OpC C pin ds fr o.dst r) {z:r.X} (hz:r.run () = some z):Goal C fr a w o Q r z:=by
 unfold atPlace at hs
 split at hs
 ·rename_i k hk
  obtain ⟨m,f,get,set,rfl,hroot,hsub,hown,hcell⟩:=look_eq hk
  split at hs
  ·rename_i hf
   cases hs
   obtain ⟨hin,cs,T1,T',T2,at_,hv,F,rfl,hLi⟩:=h.focus hroot hsub hown hcell hz hL
   have hrc:=F.rep
   exact h.plain hc (hrun z cs (.inr trivial) hLi (RepC.length _ hrc).1) rfl (Bh _ (RepC.shared hrc hf))
  ·cases hs
   obtain ⟨hin,cs,T1,T',T2,at_,hv,F,rfl,hLi⟩:=h.focus hroot hsub hown hcell hz hL
   have hrc:=F.rep
   exact h.plain hc (hrun z cs (.inr trivial) hLi (RepC.length _ hrc).1) rfl ⟨rfl,_,cs,hL,hLi,(RepC.length _ hrc).1,rfl⟩
 ·cases hs
theorem Abm {p:Plc Unit} {r:Res Unit} (hs:atPlace fr p = some r):∃ m f,fr p.i = ⟨.val p.t0 m,f⟩:=by
 unfold atPlace at hs
 split at hs
 ·rename_i k hk
  obtain ⟨m,f,get,set,rfl,hroot,hsub,hown,hcell⟩:=look_eq hk
  exact ⟨m,f,hroot⟩
 ·cases hs
theorem RepV.part {M:Program} {w:World} {P:Prot} {t:Ty} (ht:t.part = true) {m:Md} {x:t.den} {v:Value} {T:List Nat} (h:RepV M t w P m x v T):v ≠ undef /\ v.cells = #[v]:=by
 cases t <;> simp only [Ty.part,Bool.false_eq_true] at ht <;> simp only [RepV] at h
 ·obtain ⟨rfl,_⟩:=h; exact ⟨by simp [undef],rfl⟩
 ·obtain ⟨rfl,_⟩:=h; exact ⟨by simp [undef],rfl⟩
 ·obtain ⟨rfl,_⟩:=h; exact ⟨by simp [undef],rfl⟩
 ·cases m <;> simp only [RepSl] at h
  case h => obtain ⟨_,a,n,c,rfl⟩:=h; exact ⟨by simp [undef],rfl⟩
  case u =>
   rcases h with ⟨_,_,rfl⟩ | ⟨b,cap,cells,Tc,rfl,_⟩ <;> exact ⟨by simp [undef],rfl⟩
  all_goals (obtain ⟨_,⟨_,a,rfl⟩ | ⟨b,off,cap,cells,rfl,_⟩⟩:=h <;> exact ⟨by simp [undef],rfl⟩)
 ·cases m <;> simp only [RepPt] at h
  case h => obtain ⟨_,a,rfl⟩:=h; exact ⟨by simp [undef],rfl⟩
  case u => obtain ⟨b,cells,Tc,e,rfl,_⟩:=h; exact ⟨by simp [undef],rfl⟩
  all_goals (obtain ⟨_,b,off,cells,rfl,_⟩:=h; exact ⟨by simp [undef],rfl⟩)
theorem Cx.at_gb {b n:Nat} (hb:C.at a w gK = .slice (some ⟨b,0,none⟩) n n):C.gb = some b /\ C.gn = n:=by
 unfold Cx.at at hb
 rw [if_neg (by decide)] at hb
 cases hgb:C.gb with
 | none => rw [hgb] at hb; cases hb
 | some b' => rw [hgb] at hb; simp at hb; exact ⟨by rw [hb.1],hb.2⟩
theorem Ad1 (h:Sim C fr a w P T) {o:Nat} {t:Ty} (ht:(t.part && Nat.ble (o + 1) 64) = true) {m:Md} {f:Unit -> t.den} (hi:fr (gB + o) = ⟨.val t m,f⟩) {b n:Nat} (hb:C.at a w gK = .slice (some ⟨b,0,none⟩) n n) :
  CellsIn w b o [C.at a w (gB + o)] /\ (C.at a w (gB + o)).cells.toList = [C.at a w (gB + o)]:=by
 obtain ⟨hin,hrv⟩:=h.root hi
 rw [Bool.and_eq_true] at ht
 have ho:=Nat.le_of_ble_eq_true ht.2
 obtain ⟨h1,h2⟩:=hrv.part ht.1
 refine ⟨fun j v hj => ?_,by rw [h2]⟩
 have hj0:j = 0 /\ v = C.at a w (gB + o):=by
  cases j with
  | zero => simp at hj; exact ⟨rfl,hj.symm⟩
  | succ j => simp at hj
 obtain ⟨rfl,rfl⟩:=hj0
 revert hb h1
 unfold Cx.at
 rw [if_neg (by decide),if_neg (show ¬ gB + o < gB by omega)]
 cases hgb:C.gb with
 | none => intro hb h1; cases hb
 | some b' =>
  simp only [if_true]
  intro hb h1
  cases hb
  have hk:gB + o ≠ gK:=by unfold gB gK; omega
  rw [if_neg hk] at h1 ⊢
  rw [show gB + o - gB = o + 0 by omega] at h1 ⊢
  cases hc:w.cell? ⟨b,o + 0,none⟩ with
  | none => rw [hc] at h1; exact absurd rfl h1
  | some v => rfl
theorem op_load {Q:Exit -> Act -> World -> Prop} (h:Sim C fr a w P T) {o:Oper} {t:TypeId} {x:Operand} (ho:o.op = .load t x)
  {Tb:Tab} (hT:TabOk C.M Tb) (his:Tb.isA t (opx fr x).1 = true) {r:Res Unit} (hs:sLoad fr x (opx fr x) = some r) {pin:Nat -> Bool} {ds:List Nat} (hc:OpC C pin ds fr o.dst r) {z:r.X} (hz:r.run () = some z):Goal C fr a w o Q r z:=by
 have hopen:∀ b off u,a.eval x = .pointer (some ⟨b,off,none⟩) -> (loadVar t ⟨b,off,none⟩).run C.M w = .ok u w -> (execOp a.eval o).run C.M w = .ok (.value u) w:=by
  intro b off u hv hr
  simp [execOp,ho,hv,Instr.loadAt,Instr.sureAddr,hr]
 obtain ⟨Tx,hrep,hTx⟩:=opx_rep h x
 unfold sLoad at hs
 split at hs
 ·rename_i τ f heq
  rw [heq] at hrep his
  have hk:=Tab.of_isA hT his rfl
  simp only [RepE,RepV] at hrep
  obtain ⟨_,b,off,cs,hv,hrc,hcl⟩:=hrep
  exact h.plain1 (t:=τ) hs hc (hopen _ _ _ hv (Jk (P:=P) hk (RepC.length _ hrc).1 fun j v hj => (hcl j v hj).1)) (Bh τ hrc)
 ·rename_i i t0 q τ f heq
  rw [heq] at hrep his
  have hk:=Tab.of_isA hT his rfl
  obtain ⟨_,L,cs,b,off,h1,h2,h3,hv,h4⟩:=hrep
  refine Q7 h (p:=⟨i,t0,q,τ,f⟩) h1 (fun y cs' _ hL hl => ?_) hs hc hz
  have:cs' = cs:=by
   cases L with
   | vals l => exact (show l = cs' from hL).symm.trans h2
   | mem b' o' =>
    refine List.ext_getElem? fun j => ?_
    rcases Nat.lt_or_ge j τ.size with hj | hj
    ·have e1:cs'[j]? = some cs'[j]:=List.getElem?_eq_getElem (by rw [hl]; exact hj)
     have e2:cs[j]? = some cs[j]:=List.getElem?_eq_getElem (by rw [h3]; exact hj)
     have:=(hL j _ e1).symm.trans (h2 j _ e2)
     rw [e1,e2,this]
    ·rw [List.getElem?_eq_none (by rw [hl]; exact hj),List.getElem?_eq_none (by rw [h3]; exact hj)]
  subst this
  exact hopen _ _ _ hv (Jk (P:=P) hk hl fun j v hj => (h4 j v hj).1)
 ·rename_i o' t' f heq
  rw [heq] at hrep his
  have hk:=Tab.of_isA hT his rfl
  obtain ⟨_,b,n,h1,h2,h3⟩:=hrep
  split at hs
  ·rename_i hpart
   refine Q7 h (p:=⟨gB + o',t',[],t',fun _ => []⟩) (L:=.vals (C.at a w (gB + o')).cells.toList) (by simp only [resT]; cases t' <;> rfl) (fun y cs' _ hL hl => ?_) hs hc hz
   have hL:(C.at a w (gB + o')).cells.toList = cs':=hL
   subst hL
   obtain ⟨m,g,hg⟩:=Abm hs
   obtain ⟨hcell,hva⟩:=Ad1 h hpart hg h1
   rw [<- hva] at hcell
   exact hopen _ _ _ h2 (Jk (P:=P) hk hl hcell)
  ·cases hs
 ·split at hs
  ·rename_i p hp
   have hty:(opx fr x).1.tyA = some p.t:=by
    generalize opx fr x = ex at hp
    obtain ⟨e,f⟩:=ex
    cases e <;> simp only [adrOf] at hp <;> try (cases hp; done)
    case val t m =>
     cases t <;> try (cases hp; done)
     cases m <;> try (cases hp; done)
     simp only at hp
     split at hp
     ·cases hp; rfl
     ·cases hp
    case pl => cases hp; rfl
   have hk:=Tab.of_isA hT his hty
   obtain ⟨b,off,h1,h2⟩:=adr_rep h hp
   exact Q7 h h2 (fun y cs _ hL hl => hopen _ _ _ h1 (Jk (P:=P) hk hl hL)) hs hc hz
  ·cases hs
end
end Go.Abs
