/-
  The meta layer, part 41: a call to which memory of one's own is lent: for functions that are walked by hand over the claims of the functions that they call. No condition.
-/
import Derived.Test.YtbkefganebmlnaaGreatDoorN37
namespace Go.Abs
open Go.RowKit
set_option linter.unusedVariables false
set_option linter.unusedSimpArgs false
/-- a call with the blocks D lent to it -/
theorem Ai4 {B:Base} {M:Program} {f:FuncId} {ps cs:List Ty} {im m:Md} {r:Ty} {F:Ty.dens ps -> Ty.dens cs -> Option (r.den × Unit)} (hs:SigB B M f ⟨ps,cs,none,im,r,m,F⟩) {w:World} {P:Prot} (hb:BaseOk M B w P) (ht:There w P)
    {D:List Nat} (hD:∀ b ∈ D,b < w.heap.size /\ ∀ o,¬ P b o) (hr:r.fresh m = true) {xs:Ty.dens ps} {ys:Ty.dens cs} {vs caps:List Value} (ha:RepVs M ps w (P.add w D) .p xs vs []) (hc:CapR M w (P.add w D) cs ys caps) {y:r.den × Unit} (hy:F xs ys = some y) :
    Calls M f (List.toArray (vs ++ caps)) w fun e w' => ∃ u P' Tr,e = .returned u /\ PExt [] w P w' P' /\ RepV M r w' P' m y.1 u Tr /\ Tr.Nodup /\ (∀ b ∈ Tr,w.heap.size <= b /\ b < w'.heap.size) /\ ∀ b ∈ D,∀ o,¬ P' b o:=by
  refine (hs.2 w (P.add w D) xs ys vs caps [] y (hb.later (Later.add w P D)) (ht.add D) (ArgsR.of_none ha) List.nodup_nil (by simp) hc hy).mono ?_
  rintro e w' ⟨u,P1,Tr,Tq,rfl,hp,hrep,hio,hnd,hsub⟩
  have hio':Tq = []:=by
    clear hs
    cases ps <;> exact hio
  subst hio'
  simp only [List.append_nil] at hnd hsub
  refine ⟨u,P1.sub D,Tr,rfl,lent_ok (fun b hb' => (hD b hb').2) (fun b hb' => (hD b hb').1) hp,RepV.bare (fun b o h => h.1) r hrep hr,hnd,fun b hb' => ?_,fun b hb' o h => h.2 hb'⟩
  rcases hsub b hb' with h | h
  · simp at h
  · exact h
/-- what is owned, seen as lent -/
theorem Ajk {M:Program} {w:World} {P:Prot} {t:Ty} {m:Md} {x:t.den} {v:Value} {T:List Nat} (h:RepV M t w P m x v T) (hn:t.nh m = true) {D:List Nat} (hD:∀ b ∈ T,b ∈ D):RepV M t w (P.add w D) .p x v []:=
  RepV.freeze (Later.add w P D) t h hn fun b hb o v hv => .inr ⟨hD b hb,v,hv⟩
theorem keep_p {M:Program} {w w':World} {P P':Prot} {t:Ty} {x:t.den} {v:Value} (h:RepV M t w P .p x v []) (hl:Later w P w' P'):RepV M t w' P' .p x v []:=RepV.mono t h ⟨hl,by simp,by simp⟩
/-- what is owned, behind a call that was lent it -/
theorem Aje {M:Program} {w w':World} {P P':Prot} {t:Ty} {m:Md} {x:t.den} {v:Value} {T:List Nat} (h:RepV M t w P m x v T) (hp:PExt [] w P w' P') (hT:∀ b ∈ T,b < w.heap.size):RepV M t w' P' m x v T:=
  RepV.mono t h (hp.keeps T fun b hb => ⟨hT b hb,by simp⟩)
theorem Air {w w':World} {P P':Prot} {T:List Nat} (hp:PExt [] w P w' P') (hT:∀ b ∈ T,b < w.heap.size /\ ∀ o,¬ P b o):∀ b ∈ T,b < w'.heap.size /\ ∀ o,¬ P' b o:=fun b hb =>
  ⟨Nat.lt_of_lt_of_le (hT b hb).1 hp.size,fun o ho => by
    rcases hp.old b o ho with h | h | h
    · exact (hT b hb).2 o h
    · have:=(hT b hb).1; omega
    · simp at h⟩
/-- a call that is lent nothing -/
theorem Adz {B:Base} {M:Program} {f:FuncId} {ps cs:List Ty} {im m:Md} {r:Ty} {F:Ty.dens ps -> Ty.dens cs -> Option (r.den × Unit)} (hs:SigB B M f ⟨ps,cs,none,im,r,m,F⟩) {w:World} {P:Prot} (hb:BaseOk M B w P) (ht:There w P)
    {xs:Ty.dens ps} {ys:Ty.dens cs} {vs caps:List Value} (ha:RepVs M ps w P .p xs vs []) (hc:CapR M w P cs ys caps) {y:r.den × Unit} (hy:F xs ys = some y) :
    Calls M f (List.toArray (vs ++ caps)) w fun e w' => ∃ u P' Tr,e = .returned u /\ PExt [] w P w' P' /\ RepV M r w' P' m y.1 u Tr /\ Tr.Nodup /\ (∀ b ∈ Tr,w.heap.size <= b /\ b < w'.heap.size):=by
  refine (hs.2 w P xs ys vs caps [] y hb ht (ArgsR.of_none ha) List.nodup_nil (by simp) hc hy).mono ?_
  rintro e w' ⟨u,P1,Tr,Tq,rfl,hp,hrep,hio,hnd,hsub⟩
  have hio':Tq = []:=by
    clear hs
    cases ps <;> exact hio
  subst hio'
  simp only [List.append_nil] at hnd hsub
  refine ⟨u,P1,Tr,rfl,hp,hrep,hnd,fun b hb' => ?_⟩
  rcases hsub b hb' with h | h
  · simp at h
  · exact h
theorem PExt.refl {w:World} {P:Prot} (ht:There w P):PExt [] w P w P:=⟨rfl,rfl,rfl,Nat.le_refl _,fun _ _ _ => rfl,by simp,fun _ _ h => h,fun _ _ h => .inl h,ht⟩
theorem PExt.trans0 {w w1 w2:World} {P P1 P2:Prot} (h:PExt [] w P w1 P1) (k:PExt [] w1 P1 w2 P2):PExt [] w P w2 P2:=h.trans k (by simp)
/-- the cells of a list's element -/
theorem repL_at {α:Type} {R:α -> List Value -> List Nat -> Prop} {size:Nat} (hsize:∀ x cs T,R x cs T -> cs.length = size) {xs:List α} {cells:List Value} {T:List Nat} (hr:RepL R xs cells T) {i:Nat} {x:α} (hx:xs[i]? = some x) :
    ∃ T',R x ((cells.drop (i * size)).take size) T' /\ List.Sublist T' T /\ i * size + size <= cells.length:=by
  obtain ⟨c1,c2,c3,T1,T2,T3,rfl,rfl,k1,k2,_⟩:=RepL.splitW hsize hr hx
  have hl:=hsize _ _ _ k2
  refine ⟨T2,?_,(List.sublist_append_left T2 T3).trans (List.sublist_append_right T1 _),by simp only [List.length_append]; omega⟩
  rw [<- k1,List.drop_left,<- hl,List.take_left]
  exact k2
/-- a list of one's own, taken apart -/
theorem Ajg {M:Program} {e:TypeId} {t:Ty} {w:World} {P:Prot} {c:Md} {xs:List t.den} {v:Value} {T:List Nat} (h:RepV M (.sl e t) w P (.u c) xs v T) :
    ∃ a cap cells Tc,v = .slice a xs.length cap /\ xs.length <= maxLen /\ RepL (RepC M t w P c) xs cells Tc /\ List.Sublist Tc T /\ cells.length = xs.length * t.size /\ (0 < xs.length -> ∃ b,a = some ⟨b,0,none⟩ /\ b ∈ T /\ CellsIn w b 0 cells):=by
  simp only [RepV] at h
  rcases h with ⟨rfl,rfl,rfl⟩ | ⟨b,cap,cells,Tc,rfl,h2,h3,h4,h5,h6,h7,rfl,h9⟩
  · exact ⟨none,0,[],[],rfl,Nat.zero_le _,⟨rfl,rfl⟩,List.nil_sublist _,(by simp),fun h => absurd h (by simp)⟩
  · exact ⟨_,cap,cells,Tc,rfl,Nat.le_trans h2 h3,h5,List.sublist_cons_self b Tc,h6,fun _ => ⟨b,rfl,by simp,h7⟩⟩
theorem Y6 {w w':World} {P:Prot} (h:Below w.heap.size w w') (ht:There w P):PExt [] w P w' P:=
  ⟨h.os,h.tape,h.output,h.size,fun k hk _ => h.block k hk,fun _ hk => by simp at hk,fun _ _ hp => hp,fun _ _ hp => .inl hp,fun b o hp => by
    obtain ⟨v,hv⟩:=ht b o hp
    exact ⟨v,by rw [World.cell?_of_block (h.block b (World.block_lt_of_cell? w ⟨b,o,none⟩ hv))]; exact hv⟩⟩
/-- what a block's object says of its cells -/
theorem cell_of {w:World} {b:Nat} {c:Array Value} {e:TypeId} (h:w.heap[b]? = some (.cells c e (0,0))) (o:Nat):w.cell? ⟨b,o,none⟩ = c[o]?:=by simp [World.cell?,h]
theorem Mx {w:World} {b:Nat} {c:Array Value} {e:TypeId} (h:w.heap[b]? = some (.cells c e (0,0))) (o:Nat):w.frozen? ⟨b,o,none⟩ = false:=by simp [World.frozen?,h]
theorem Nt {w:World} {b:Nat} {c:Array Value} {e:TypeId} (h:w.heap[b]? = some (.cells c e (0,0))) (o:Nat) (v:Value):(w.setCell ⟨b,o,none⟩ v).heap[b]? = some (.cells (c.setIfInBounds o v) e (0,0)):=by
  simp only [World.setCell,Array.getElem?_modify,h]
  simp
theorem Qg {w:World} {b:Nat} {o:Nat} {v:Value} {k:Nat} (h:k ≠ b):(w.setCell ⟨b,o,none⟩ v).heap[k]? = w.heap[k]?:=by
  simp only [World.setCell,Array.getElem?_modify]
  rw [if_neg (fun e => h e.symm)]
/-- a cell written in a block that nothing leans on -/
theorem Ns {w:World} {P:Prot} (ht:There w P) {b o:Nat} {v:Value} (hb:∀ o,¬ P b o):PExt [b] w P (w.setCell ⟨b,o,none⟩ v) P:=by
  refine ⟨rfl,rfl,rfl,by simp [World.setCell],fun k _ hk => Qg (by simpa using hk),fun k hk o => by simp at hk; subst hk; exact hb o,fun _ _ h => h,fun _ _ h => .inl h,fun k o' hp => ?_⟩
  have hne:k ≠ b:=fun e => hb o' (e ▸ hp)
  obtain ⟨u,hu⟩:=ht k o' hp
  exact ⟨u,by rw [World.cell?_of_block (Qg hne)]; exact hu⟩
theorem PExt.wide {F F':List Nat} {w w':World} {P P':Prot} (h:PExt F w P w' P') (hF:∀ b ∈ F,b ∈ F') (hf:∀ k ∈ F',∀ o,¬ P k o):PExt F' w P w' P':=
  ⟨h.os,h.tape,h.output,h.size,fun k hk hn => h.block k hk fun hm => hn (hF k hm),hf,h.prot,fun b o hp => by
    rcases h.old b o hp with h' | h' | h'
    · exact .inl h'
    · exact .inr (.inl h')
    · exact .inr (.inr (hF b h')),h.there⟩
/-- a fact that is kept out of sight -/
structure AsideQ (p:Prop):Prop where
  out:p
end Go.Abs
