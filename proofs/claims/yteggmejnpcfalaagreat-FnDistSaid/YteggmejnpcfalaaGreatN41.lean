/-
  The meta layer, part 41: a call to which memory of one's own is lent: for functions that are walked by hand over the claims of the functions that they call. No condition.
-/
import Derived.Test.YteggmejnpcfalaaGreatN37
namespace Go.Abs
open Go.RowKit
set_option linter.unusedVariables false
set_option linter.unusedSimpArgs false
theorem keep_p {M:Program} {w w':World} {P P':Prot} {t:Ty} {x:t.den} {v:Value} (h:RepV M t w P .p x v []) (hl:Later w P w' P'):RepV M t w' P' .p x v []:=RepV.mono t h ⟨hl,by simp,by simp⟩
/-- what is owned, behind a call that was lent it -/
theorem Ada {M:Program} {w w':World} {P P':Prot} {t:Ty} {m:Md} {x:t.den} {v:Value} {T:List Nat} (h:RepV M t w P m x v T) (hp:PExt [] w P w' P') (hT:∀ b ∈ T,b < w.heap.size):RepV M t w' P' m x v T:=
 RepV.mono t h (hp.keeps T fun b hb => ⟨hT b hb,by simp⟩)
/-- a call that is lent nothing -/
theorem Pg {B:Base} {M:Program} {f:FuncId} {ps cs:List Ty} {im m:Md} {r:Ty} {F:Ty.dens ps -> Ty.dens cs -> Option (r.den × Unit)} (hs:SigB B M f ⟨ps,cs,none,im,r,m,F⟩) {w:World} {P:Prot} (hb:BaseOk M B w P) (ht:There w P)
  {xs:Ty.dens ps} {ys:Ty.dens cs} {vs caps:List Value} (ha:RepVs M ps w P .p xs vs []) (hc:CapR M w P cs ys caps) {y:r.den × Unit} (hy:F xs ys = some y) :
  Calls M f (List.toArray (vs ++ caps)) w fun e w' => ∃ u P' Tr,e = .returned u /\ PExt [] w P w' P' /\ RepV M r w' P' m y.1 u Tr /\ Tr.Nodup /\ (∀ b ∈ Tr,w.heap.size <= b /\ b < w'.heap.size):=by
 refine (hs.2 w P xs ys vs caps [] y hb ht (ArgsR.of_none ha) List.nodup_nil (by simp) hc hy).mono ?_
 rintro e w' ⟨u,P1,Tr,Tq,rfl,hp,hrep,hio,hnd,hsub⟩
 have hio':Tq = []:=by
  clear hs
  cases ps <;> exact hio
 subst hio'
 simp only [List.append_nil] at hnd hsub
 refine ⟨u,P1,Tr,rfl,hp,hrep,hnd,fun b hb' => ?_⟩
 rcases hsub b hb' with h | h
 ·simp at h
 ·exact h
theorem PExt.refl {w:World} {P:Prot} (ht:There w P):PExt [] w P w P:=⟨rfl,rfl,rfl,Nat.le_refl _,fun _ _ _ => rfl,by simp,fun _ _ h => h,fun _ _ h => .inl h,ht⟩
theorem PExt.trans0 {w w1 w2:World} {P P1 P2:Prot} (h:PExt [] w P w1 P1) (k:PExt [] w1 P1 w2 P2):PExt [] w P w2 P2:=h.trans k (by simp)
theorem Qh {w w':World} {P:Prot} (h:Below w.heap.size w w') (ht:There w P):PExt [] w P w' P:=
 ⟨h.os,h.tape,h.output,h.size,fun k hk _ => h.block k hk,fun _ hk => by simp at hk,fun _ _ hp => hp,fun _ _ hp => .inl hp,fun b o hp => by
  obtain ⟨v,hv⟩:=ht b o hp
  exact ⟨v,by rw [World.cell?_of_block (h.block b (World.block_lt_of_cell? w ⟨b,o,none⟩ hv))]; exact hv⟩⟩
/-- what a block's object says of its cells -/
theorem cell_of {w:World} {b:Nat} {c:Array Value} {e:TypeId} (h:w.heap[b]? = some (.cells c e (0,0))) (o:Nat):w.cell? ⟨b,o,none⟩ = c[o]?:=by simp [World.cell?,h]
theorem Vj {w:World} {b:Nat} {c:Array Value} {e:TypeId} (h:w.heap[b]? = some (.cells c e (0,0))) (o:Nat):w.frozen? ⟨b,o,none⟩ = false:=by simp [World.frozen?,h]
theorem Ac2 {w:World} {b:Nat} {c:Array Value} {e:TypeId} (h:w.heap[b]? = some (.cells c e (0,0))) (o:Nat) (v:Value):(w.setCell ⟨b,o,none⟩ v).heap[b]? = some (.cells (c.setIfInBounds o v) e (0,0)):=by
 simp only [World.setCell,Array.getElem?_modify,h]
 simp
theorem Gv {w:World} {b:Nat} {o:Nat} {v:Value} {k:Nat} (h:k ≠ b):(w.setCell ⟨b,o,none⟩ v).heap[k]? = w.heap[k]?:=by
 simp only [World.setCell,Array.getElem?_modify]
 rw [if_neg (fun e => h e.symm)]
/-- a cell written in a block that nothing leans on -/
theorem Acu {w:World} {P:Prot} (ht:There w P) {b o:Nat} {v:Value} (hb:∀ o,¬ P b o):PExt [b] w P (w.setCell ⟨b,o,none⟩ v) P:=by
 refine ⟨rfl,rfl,rfl,by simp [World.setCell],fun k _ hk => Gv (by simpa using hk),fun k hk o => by simp at hk; subst hk; exact hb o,fun _ _ h => h,fun _ _ h => .inl h,fun k o' hp => ?_⟩
 have hne:k ≠ b:=fun e => hb o' (e ▸ hp)
 obtain ⟨u,hu⟩:=ht k o' hp
 exact ⟨u,by rw [World.cell?_of_block (Gv hne)]; exact hu⟩
/-- a fact that is kept out of sight -/
structure AsideQ (p:Prop):Prop where
 out:p
end Go.Abs
