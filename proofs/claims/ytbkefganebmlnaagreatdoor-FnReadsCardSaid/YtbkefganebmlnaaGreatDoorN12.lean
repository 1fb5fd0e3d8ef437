/-
  The meta layer, part 12: append.
-/
import Derived.Test.YtbkefganebmlnaaGreatDoorN11
namespace Go.Abs
open Go.RowKit
set_option linter.unusedVariables false
set_option linter.unusedSimpArgs false
structure Grown (w w':World) (b:Option Nat):Prop where
 os:w'.os = w.os
 tape:w'.tape = w.tape
 output:w'.output = w.output
 size:w.heap.size <= w'.heap.size
 block:∀ k,k < w.heap.size -> some k ≠ b -> w'.heap[k]? = w.heap[k]?
theorem Grown.refl (w:World) (b:Option Nat):Grown w w b:=⟨rfl,rfl,rfl,Nat.le_refl _,fun _ _ _ => rfl⟩
section
variable {C:Cx} {fr:Fr} {a:Act} {w:World} {P:Prot} {T:Nat -> List Nat}
theorem Sim.grown (h:Sim C fr a w P T) {w':World} {b:Option Nat} (hg:Grown w w' b) (hb:∀ k,b = some k -> (C.w0.heap.size <= k \/ k ∈ C.F) /\ ∀ o,¬ P k o) :
  PExt C.F C.w0 C.P0 w' P /\ (∀ S:List Nat,(∀ k ∈ S,k < w.heap.size /\ some k ≠ b) -> Keeps w P w' P S) /\ (∀ k o,w.heap.size <= k -> ¬ P k o):=by
 have hlt:∀ k x v,w.cell? ⟨k,x,none⟩ = some v -> k < w.heap.size:=fun k x v hv => World.block_lt_of_cell? w ⟨k,x,none⟩ hv
 have hpb:∀ k o,P k o -> some k ≠ b:=fun k o hp e => (hb k e.symm).2 o hp
 have hcell:∀ k x v,P k x -> w.cell? ⟨k,x,none⟩ = some v -> w'.cell? ⟨k,x,none⟩ = some v:=fun k x v hp hv => by
  rw [World.cell?_of_block (hg.block k (hlt k x v hv) (hpb k x hp))]; exact hv
 have hs0:=h.pext.size
 refine ⟨⟨hg.os.trans h.pext.os,hg.tape.trans h.pext.tape,hg.output.trans h.pext.output,Nat.le_trans hs0 hg.size,fun k hk hF => ?_,h.pext.free,h.pext.prot,h.pext.old,fun k x hp => ?_⟩,
  fun S hS => ⟨⟨hg.size,fun _ _ hp => hp,hcell,fun k o hlt hp => hg.block k hlt (hpb k o hp)⟩,fun k hk => .of (hg.block k (hS k hk).1 (hS k hk).2),fun _ _ _ hp => hp⟩,fun k o hk hp => ?_⟩
 ·rw [hg.block k (by omega) (fun e => by rcases (hb k e.symm).1 with h' | h'; omega; exact hF h')]
  exact h.pext.block k hk hF
 ·obtain ⟨v,hv⟩:=h.pext.there k x hp
  exact ⟨v,hcell k x v hp hv⟩
 ·obtain ⟨v,hv⟩:=h.pext.there k o hp
  have:=hlt k o v hv
  omega
theorem X6 {M:Program} {P:Prot} {t ty e:TypeId} {τ:Ty} {c:Md} (hk:TyOk M t (.sl e τ)) {xs:List τ.den} {vx:Value} {Tx:List Nat} (hr:RepV M (.sl e τ) w P (.u c) xs vx Tx)
  {ad:Option Addr} {m cap':Nat} {news:List Value} (hm:xs.length + m <= room) (hl:news.length = m * τ.size) (hn:(ad = none /\ m = 0 /\ cap' = 0) \/ ∃ a,ad = some a /\ ∀ j u,news[j]? = some u -> w.cell? (a.add j) = some u) (h1:∀ u ∈ news,u.oneCell' = true) :
  ∃ v' w',(Builtin.append_ #[t,t] ty #[vx,.slice ad m cap']).run M w = .ok v' w' /\
   ((v' = .slice none 0 0 /\ xs = [] /\ m = 0 /\ w' = w /\ Tx = []) \/
    ∃ b' cap2 cells Tc,v' = .slice (some ⟨b',0,none⟩) (xs.length + m) cap2 /\ xs.length + m <= cap2 /\ cap2 <= maxLen /\ RowIs w' b' e (cap2 * τ.size) /\ CellsIn w' b' 0 (cells ++ news) /\
     RepL (RepC M τ w P c) xs cells Tc /\ cells.length = xs.length * τ.size /\
     ((Tx = b' :: Tc /\ Grown w w' (some b') /\ w'.heap.size = w.heap.size /\ ∀ o,¬ P b' o) \/ (b' = w.heap.size /\ w'.heap.size = w.heap.size + 1 /\ (Tx = Tc \/ ∃ b0,Tx = b0 :: Tc) /\ Grown w w' none))):=by
 obtain ⟨hu,i,zz,hi',hzi,hsz,hzs,hpos,hby,hzv,hel⟩:=hk
 have hroom:(2:Nat) ^ 32 = room:=rfl
 have h63:xs.length + m <= maxLen:=Nat.le_trans hm Acq
 have hbytes:(xs.length + m) * i.bytes <= 140737488355328:=by
  have:=Nat.mul_le_mul hm hby
  simp only [room] at this
  omega
 simp only [RepV] at hr
 rcases hr with ⟨rfl,rfl,rfl⟩ | ⟨b,cap,cells,Tc,rfl,hcap,hmx,hrow,hrl,hcl,hin,rfl,hfree⟩
 ·-- a nil slice
  rcases hn with ⟨rfl,rfl,rfl⟩ | ⟨a,rfl,hn⟩
  ·have:=run_append_owned_none (P:=M) (w:=w) w.heap.size t ty e i τ.size hu hi' (.slice none 0 0) 0 [] (World.ownsRow_nil w _ e τ.size)
   exact ⟨_,_,this,.inl ⟨rfl,rfl,rfl,rfl,rfl⟩⟩
  ·by_cases hm0:m = 0
   ·subst hm0
    obtain ⟨v',w',hrun,hown,hg,hiff⟩:=run_append_own (P:=M) w w.heap.size t ty e i zz τ.size i.bytes hu hi' hzi hsz rfl hzs hpos (.slice none 0 0) 0 [] (World.ownsRow_nil w _ e τ.size) a 0 cap' news hl hn h1 (by simp) (by simp) (Nat.le_refl _)
    have hrun':(Builtin.append_ #[t,t] ty #[.slice none 0 0,.slice (some a) 0 cap']).run M w = .ok (.slice none 0 0) w:=by
     have hnews:news = []:=List.eq_nil_of_length_eq_zero (by simpa using hl)
     have hfc:=run_firstCells_some (P:=M) w i.size 0 a 0 cap' [] (by simp) (by simp)
     simp [Builtin.append_,run_underlying hu,sizeOf,typeInfo,hi',Builtin.lenOf,hfc]
    exact ⟨_,_,hrun',.inl ⟨rfl,rfl,rfl,rfl,rfl⟩⟩
   ·have hg:(0:Nat) < m:=by omega
    have hgr:=run_append_nil (P:=M) w t ty e i zz hu hi' hzi a m cap' news (by rw [hl,hsz]) hn hg (by simp only [room] at hm; simp at hm; omega) (by simp only [List.length_nil,Nat.zero_add] at hbytes; omega)
    have hge:=grownCap_ge w m 0 e
    have hcm:grownCap w m 0 e <= maxLen:=grownCap_le_maxLen w m 0 e (by simpa using h63)
    have hnew:(w.drew.alloc (.cells (news.toArray ++ Builtin.zeroCells zz.cells (grownCap w m 0 e - m)) e)).heap[w.heap.size]? = some (.cells (news.toArray ++ Builtin.zeroCells zz.cells (grownCap w m 0 e - m)) e (0,0)):=heap_alloc_new w.drew _
    refine ⟨_,_,hgr,.inr ⟨w.heap.size,grownCap w m 0 e,[],[],by simp,by simpa using hge,hcm,⟨_,hnew,?_⟩,fun j v hj => ?_,⟨rfl,rfl⟩,by simp,.inr ⟨rfl,by simp,.inl rfl,⟨rfl,rfl,rfl,by simp,fun k hk _ => Below.heap_alloc w.drew _ k hk⟩⟩⟩⟩
    ·simp only [Array.size_append,List.size_toArray,size_zeroCells,hzs,hl,<- Nat.add_mul]
     congr 1
     omega
    ·rw [cell_of_row _ _ _ _ e (0,0) hnew,Nat.zero_add]
     rw [List.nil_append] at hj
     rw [Array.getElem?_append_left (by simpa using (List.getElem?_eq_some_iff.1 hj).1)]
     simpa using hj
 ·rcases hn with ⟨rfl,rfl,rfl⟩ | ⟨a,rfl,hn⟩
  ·-- nothing is appended
   have hnews:news = []:=List.eq_nil_of_length_eq_zero (by simpa using hl)
   subst hnews
   have hrun:(Builtin.append_ #[t,t] ty #[.slice (some ⟨b,0,none⟩) xs.length cap,.slice none 0 0]).run M w = .ok (.slice (some ⟨b,0,none⟩) xs.length cap) w:=by
    simp [Builtin.append_,run_underlying hu,sizeOf,typeInfo,hi',Builtin.lenOf,Builtin.firstCells,hcap,storeCells]
   exact ⟨_,_,hrun,.inr ⟨b,cap,cells,Tc,rfl,hcap,hmx,hrow,by simpa using hin,hrl,hcl,.inl ⟨rfl,Grown.refl w _,rfl,hfree⟩⟩⟩
  ·by_cases hroomy:xs.length + m <= cap
   ·-- there is room
    obtain ⟨cur,hcur,hcs⟩:=hrow
    have hfit:xs.length * τ.size + news.length <= cap * τ.size:=by rw [hl,<- Nat.add_mul]; exact Nat.mul_le_mul_right _ hroomy
    have hex:∀ j,j < news.length -> (w.cell? ⟨b,xs.length * τ.size + j,none⟩).isSome = true:=fun j hj => by
     rw [cell_of_row w b _ cur e (0,0) hcur,Array.getElem?_eq_getElem (by omega)]
     rfl
    have hrun:=run_append_room_cells (P:=M) w t ty e i hu hi' b 0 xs.length cap a m cap' news (by rw [hl,hsz]) hn h1 hroomy (by simpa [hsz] using hex) (fun j _ => S6 ⟨cur,hcur,hcs⟩ _)
    simp only [Nat.zero_add,hsz] at hrun
    obtain ⟨f1,f2,f3,f4,f5,f6⟩:=Nf b news (xs.length * τ.size) w
    refine ⟨_,_,hrun,.inr ⟨b,cap,cells,Tc,rfl,hroomy,hmx,f2 b e _ ⟨cur,hcur,hcs⟩,fun j v hj => ?_,hrl,hcl,.inl ⟨rfl,⟨f4,f5,f6,by rw [f3]; exact Nat.le_refl _,fun k _ hk => f1 k (fun e => hk (by rw [e]))⟩,f3,hfree⟩⟩⟩
    rw [Nat.zero_add]
    rcases Nat.lt_or_ge j cells.length with hlt | hge
    ·rw [World.cell?_setCells_out b news _ w ⟨b,j,none⟩ (fun _ _ => .inl (by show j < _; omega))]
     rw [List.getElem?_append_left hlt] at hj
     have:=hin j v hj
     rwa [Nat.zero_add] at this
    ·rw [List.getElem?_append_right hge] at hj
     have hlt:=(List.getElem?_eq_some_iff.1 hj).1
     have:=World.cell?_setCells_in b news (xs.length * τ.size) w hex (j - cells.length) hlt
     have e1:xs.length * τ.size + (j - cells.length) = j:=by omega
     rw [e1] at this
     rw [this,<- hj,List.getElem?_eq_getElem hlt]
   ·-- a greater row
    have hgr:=run_append_grow (P:=M) w t ty e i zz hu hi' hzi ⟨b,0,none⟩ xs.length cap cells (by rw [hcl,hsz]) (fun j v hj => by rw [Addr.add_mk]; exact hin j v hj) a m cap' news (by rw [hl,hsz]) hn (by omega) (by simp only [room] at hm; simp at hm; omega) (growslice_fits (by omega) hbytes)
    have hge:=grownCap_ge w (xs.length + m) cap e
    have hcm:grownCap w (xs.length + m) cap e <= maxLen:=grownCap_le_maxLen w (xs.length + m) cap e h63
    have hnew:(w.drew.alloc (.cells (cells.toArray ++ news.toArray ++ Builtin.zeroCells zz.cells (grownCap w (xs.length + m) cap e - (xs.length + m))) e)).heap[w.heap.size]? = some (.cells (cells.toArray ++ news.toArray ++ Builtin.zeroCells zz.cells (grownCap w (xs.length + m) cap e - (xs.length + m))) e (0,0)):=heap_alloc_new w.drew _
    refine ⟨_,_,hgr,.inr ⟨w.heap.size,grownCap w (xs.length + m) cap e,cells,Tc,rfl,hge,hcm,⟨_,hnew,?_⟩,fun j v hj => ?_,hrl,hcl,.inr ⟨rfl,by simp,.inr ⟨b,rfl⟩,⟨rfl,rfl,rfl,by simp,fun k hk _ => Below.heap_alloc w.drew _ k hk⟩⟩⟩⟩
    ·simp only [Array.size_append,List.size_toArray,size_zeroCells,hzs,hcl,hl,<- Nat.add_mul]
     congr 1
     omega
    ·rw [cell_of_row _ _ _ _ e (0,0) hnew,Nat.zero_add]
     rw [Array.getElem?_append_left (by have:=(List.getElem?_eq_some_iff.1 hj).1; simpa using this)]
     simpa using hj
mutual
theorem RepC.flat {M:Program} {w w':World} {P P':Prot}:(t:Ty) -> t.flat = true -> ∀ {m m':Md} {x:t.den} {cs:List Value} {T:List Nat},RepC M t w P m x cs T -> RepC M t w' P' m' x cs [] /\ T = []
 | .int k,_,_,_,_,_,_,h => by simp only [RepC] at h ⊢; exact ⟨⟨h.1,trivial⟩,h.2⟩
 | .bool,_,_,_,_,_,_,h => by simp only [RepC] at h ⊢; exact ⟨⟨h.1,trivial⟩,h.2⟩
 | .str,_,_,_,_,_,_,h => by simp only [RepC] at h ⊢; exact ⟨⟨h.1,trivial⟩,h.2⟩
 | .st ts,hf,_,_,_,_,_,h => by
  simp only [RepC] at h ⊢
  exact RepCs.flat ts (by simpa [Ty.flat] using hf) h
 | .sl _ _,hf,_,_,_,_,_,_ => by simp [Ty.flat] at hf
 | .ptr _,hf,_,_,_,_,_,_ => by simp [Ty.flat] at hf
 | .fn _ _,hf,_,_,_,_,_,_ => by simp [Ty.flat] at hf
 | .tup _,_,_,_,_,_,_,h => by simp only [RepC] at h
theorem RepCs.flat {M:Program} {w w':World} {P P':Prot}:(ts:List Ty) -> Ty.flats ts = true -> ∀ {m m':Md} {x:Ty.dens ts} {cs:List Value} {T:List Nat},RepCs M ts w P m x cs T -> RepCs M ts w' P' m' x cs [] /\ T = []
 | [],_,_,_,_,_,_,h => by simp only [RepCs] at h ⊢; exact ⟨⟨h.1,trivial⟩,h.2⟩
 | t :: ts,hf,_,_,_,_,_,h => by
  simp only [RepCs] at h ⊢
  simp only [Ty.flats,Bool.and_eq_true] at hf
  obtain ⟨c1,c2,T1,T2,rfl,rfl,h1,h2⟩:=h
  obtain ⟨k1,rfl⟩:=RepC.flat t hf.1 h1
  obtain ⟨k2,rfl⟩:=RepCs.flat ts hf.2 h2
  exact ⟨⟨c1,c2,[],[],rfl,rfl,k1,k2⟩,rfl⟩
end
theorem RepL.flat {M:Program} {w w':World} {P P':Prot} {t:Ty} (hf:t.flat = true) {m m':Md}:∀ {xs:List t.den} {cs:List Value} {T:List Nat},RepL (RepC M t w P m) xs cs T -> RepL (RepC M t w' P' m') xs cs []
 | [],_,_,h => ⟨h.1,rfl⟩
 | x :: xs,_,_,⟨c1,c2,T1,T2,rfl,rfl,h1,h2⟩ => ⟨c1,c2,[],[],rfl,rfl,(RepC.flat t hf h1).1,RepL.flat hf h2⟩
theorem RepL.lengths {M:Program} {w:World} {P:Prot} {t:Ty} {m:Md}:∀ {xs:List t.den} {cs:List Value} {T:List Nat},RepL (RepC M t w P m) xs cs T -> cs.length = xs.length * t.size /\ ∀ u ∈ cs,u.oneCell' = true
 | [],_,_,h => by rw [h.1]; simp
 | x :: xs,_,_,⟨c1,c2,T1,T2,rfl,rfl,h1,h2⟩ => by
  have k1:=RepC.length t h1
  have k2:=RepL.lengths h2
  refine ⟨by simp only [List.length_append,k1.1,k2.1,List.length_cons,Nat.add_mul]; omega,fun u hu => ?_⟩
  rcases List.mem_append.1 hu with hu | hu
  ·exact k1.2 u hu
  ·exact k2.2 u hu
def Second (w:World) (v:Value) (m:Nat) (news:List Value):Prop:=
 ∃ ad cap,v = .slice ad m cap /\ ((ad = none /\ m = 0 /\ cap = 0) \/ ∃ a,ad = some a /\ ∀ j u,news[j]? = some u -> w.cell? (a.add j) = some u)
theorem Ye {Q:Exit -> Act -> World -> Prop} (h:Sim C fr a w P T) {o:Oper} {cl:Call} (ho:o.op = .call cl) {x yo:Operand} {t e:TypeId} {τ:Ty} {c:Md} (hcc:cl.callee = .builtin .append) (hargs:cl.args.toList = [x,yo]) (htys:cl.argTypes.toList = [t,t])
  (hk:TyOk C.M t (.sl e τ)) {r:Res Unit} {pin:Nat -> Bool} {ds:List Nat} (hc:OpC C pin ds fr o.dst r) {z:r.X} {xs ys:List τ.den} (hrf:∀ w P tm Tf v T,RepV C.M (.sl e τ) w P (.u c) (xs ++ ys) v T -> RepE C.M w P tm Tf ⟨r.e,fun _ => r.f () z⟩ v T)
  {us:List (Nat × Ex Unit)} (hus:r.us = usX us) {Tx Tz:List Nat} {Tn:Nat -> List Nat} (tk:TakeU C a w P T us (Tx ++ Tz) Tn) (hrx:RepV C.M (.sl e τ) w P (.u c) xs (a.eval x) Tx)
  {D Ty:List Nat} (hD:∀ k ∈ D,k ∈ Tz /\ k ∉ Ty) (hTy:List.Sublist Ty Tz) {news:List Value} (hry:RepL (RepC C.M τ w (P.add w D) c) ys news Ty) (hsec:Second w (a.eval yo) ys.length news) (hm:xs.length + ys.length <= room):Goal C fr a w o Q r z:=by
 obtain ⟨ad,cap',hvy,hadr⟩:=hsec
 obtain ⟨hnl,hn1⟩:=RepL.lengths hry
 have ha:cl.args = #[x,yo]:=by rw [<- Array.toArray_toList (xs:=cl.args),hargs]
 have hty:cl.argTypes = #[t,t]:=by rw [<- Array.toArray_toList (xs:=cl.argTypes),htys]
 obtain ⟨v',w',hrun,hres⟩:=X6 (ty:=o.type) hk hrx hm hnl hadr hn1
 have hexec:(execOp a.eval o).run C.M w = .ok (.value v') w':=by
  have:(execOp a.eval o).run C.M w = ((Builtin.append_ #[t,t] o.type #[a.eval x,a.eval yo]).run C.M w).andThen fun v w' => .ok (.value v) w':=by
   simp [execOp,ho,resolve,hcc,invoke,builtin,ha,hty]
  rw [this,hvy,hrun]
  rfl
 refine Jh hexec ?_
 have hTlt:∀ k ∈ Tx ++ Tz,(C.w0.heap.size <= k \/ k ∈ C.F) /\ k < w.heap.size:=fun k hk => by
  obtain ⟨i,_,hi⟩:=tk.sub k hk
  exact h.new i k hi
 obtain ⟨nx,nz,nxz⟩:=List.nodup_append.1 tk.nodup
 have hDx:∀ k ∈ D,k ∉ Tx:=fun k hk hk' => nxz k hk' k (hD k hk).1 rfl
 rcases hres with ⟨rfl,rfl,hm0,rfl,rfl⟩ | ⟨b',cap2,cells,Tc,rfl,hle,hmx,hrow,hin,hrl,hcl,hcase⟩
 ·have hys:ys = []:=List.eq_nil_of_length_eq_zero hm0
  subst hys
  obtain ⟨Tn',hd⟩:=h.give hc hus tk (y:=z) (v:=.slice none 0 0) (Td:=[]) h.pext (Nat.le_refl _) (fun S _ => Keeps.refl _ P S) (fun tm Tf => hrf _ _ _ _ _ _ (by simp only [RepV]; exact .inl ⟨rfl,rfl,rfl⟩)) List.nodup_nil (by simp)
  exact h.did hc hd
 ·-- what is common to both: the world grows,the blocks D are protected
  have fin:∀ (bo:Option Nat),Grown w w' bo -> (∀ k,bo = some k -> k ∈ Tx) -> (∀ q,¬ P b' q) -> b' ∉ D -> b' ∉ Tc ++ Ty -> (b' ∈ Tx \/ (w.heap.size <= b' /\ b' < w'.heap.size)) -> (∀ k ∈ Tc,k ∈ Tx /\ some k ≠ bo) -> Tc.Nodup ->
    ∃ P' T',Sim C (updF fr o.dst ⟨r.e,fun _ => r.f () z⟩ (r.ws z)) (a.put o.dst (.slice (some ⟨b',0,none⟩) (xs.length + ys.length) cap2)) w' P' T':=by
   intro bo hg hbo hfree hbD hbT hbn hTc hTcn
   have hfx:∀ k ∈ Tx,∀ q,¬ P k q:=by
    have:=RepC.free _ (Bb (.sl e τ) rfl hrx).1
    exact this
   obtain ⟨g1,g2,g3⟩:=h.grown hg fun k hk => ⟨(hTlt k (List.mem_append_left _ (hbo k hk))).1,hfx k (hbo k hk)⟩
   have hDlt:∀ k ∈ D,k < w.heap.size:=fun k hk => (hTlt k (List.mem_append_right _ (hD k hk).1)).2
   have hDbo:∀ k ∈ D,some k ≠ bo:=fun k hk e => hDx k hk (hbo k e.symm)
   have hkd:∀ S:List Nat,(∀ k ∈ S,k < w.heap.size /\ some k ≠ bo /\ k ∉ D) -> Keeps w P w' (P.add w D) S:=fun S hS => by
    have k1:=g2 S fun k hk => ⟨(hS k hk).1,(hS k hk).2.1⟩
    exact ⟨⟨k1.later.size,fun _ _ hp => .inl hp,k1.later.cell,k1.later.blk⟩,k1.block,fun k hk q hq => by
     rcases hq with hq | ⟨hq,_⟩
     ·exact hq
     ·exact absurd hq (hS k hk).2.2⟩
   have hDcell:∀ k ∈ D,∀ q v,w.cell? ⟨k,q,none⟩ = some v -> w'.cell? ⟨k,q,none⟩ = some v:=fun k hk q v hv => by
    rw [World.cell?_of_block (hg.block k (hDlt k hk) (hDbo k hk))]; exact hv
   have hk2:Keeps w (P.add w D) w' (P.add w D) Ty:=by
    refine ⟨⟨hg.size,fun _ _ hp => hp,fun k q v hp hv => ?_,fun k q hlt hp => ?_⟩,fun k hk => .of (hg.block k (hTlt k (List.mem_append_right _ (hTy.subset hk))).2 (fun e => nxz k (hbo k e.symm) k (hTy.subset hk) rfl)),fun _ _ _ hp => hp⟩
    rcases hp with hp | ⟨hp,_⟩
    ·exact (g2 [] (by simp)).later.cell k q v hp hv
    ·exact hDcell k hp q v hv
    rcases hp with hp | ⟨hp,_⟩
    ·exact (g2 [] (by simp)).later.blk k q hlt hp
    ·exact hg.block k (hDlt k hp) (hDbo k hp)
   have hrep:RepV C.M (.sl e τ) w' (P.add w D) (.u c) (xs ++ ys) (.slice (some ⟨b',0,none⟩) (xs.length + ys.length) cap2) (b' :: (Tc ++ Ty)):=by
    simp only [RepV]
    refine .inr ⟨b',cap2,cells ++ news,Tc ++ Ty,by rw [List.length_append],by rw [List.length_append]; exact hle,hmx,hrow,?_,by rw [List.length_append,List.length_append,hcl,hnl,Nat.add_mul],hin,rfl,fun q hq => ?_⟩
    ·exact RepL.join (hrl.mono fun y cs T' hs r => RepC.mono τ r (hkd T' fun k hk => ⟨(hTlt k (List.mem_append_left _ (hTc k (hs k hk)).1)).2,(hTc k (hs k hk)).2,fun hd => hDx k hd (hTc k (hs k hk)).1⟩))
      (hry.mono fun y cs T' hs r => RepC.mono τ r (hk2.sub hs))
    ·rcases hq with hq | ⟨hq,_⟩
     ·exact hfree q hq
     ·exact hbD hq
   obtain ⟨Tn',hd⟩:=h.give hc hus tk (y:=z) (v:=.slice (some ⟨b',0,none⟩) (xs.length + ys.length) cap2) (Td:=b' :: (Tc ++ Ty)) (P':=P.add w D)
    (g1.add2 (fun k hk => (hTlt k (List.mem_append_right _ (hD k hk).1)).1) (fun k q hq => by
     rcases hq with hq | ⟨hq,v,hv⟩
     ·exact g1.there k q hq
     ·exact ⟨v,hDcell k hq q v hv⟩)) hg.size (fun S hS => hkd S fun k hk => ⟨(hS k hk).1,fun e => (hS k hk).2 (List.mem_append_left _ (hbo k e.symm)),fun hd => (hS k hk).2 (List.mem_append_right _ (hD k hd).1)⟩)
    (fun tm Tf => hrf _ _ _ _ _ _ hrep) (List.nodup_cons.2 ⟨hbT,List.nodup_append.2 ⟨hTcn,nz.sublist hTy,fun k hk l hl e => nxz k (hTc k hk).1 l (hTy.subset hl) e⟩⟩) (fun k hk => by
     rcases List.mem_cons.1 hk with rfl | hk
     ·rcases hbn with hbn | hbn
      ·exact .inl (List.mem_append_left _ hbn)
      ·exact .inr hbn
     ·rcases List.mem_append.1 hk with hk | hk
      ·exact .inl (List.mem_append_left _ (hTc k hk).1)
      ·exact .inl (List.mem_append_right _ (hTy.subset hk)))
   exact h.did hc hd
  rcases hcase with ⟨rfl,hg,hsz,hfree⟩ | ⟨rfl,hsz,hTx,hg⟩
  ·obtain ⟨n1,n2⟩:=List.nodup_cons.1 nx
   refine fin (some b') hg (fun k hk => by cases hk; simp) hfree (fun hd => hDx b' hd (by simp)) (fun hb => ?_) (.inl (by simp)) (fun k hk => ⟨by simp [hk],fun e => n1 (by cases e; exact hk)⟩) n2
   rcases List.mem_append.1 hb with hb | hb
   ·exact n1 hb
   ·exact nxz b' (by simp) b' (hTy.subset hb) rfl
  ·have hsub:∀ k ∈ Tc,k ∈ Tx:=fun k hk => by rcases hTx with rfl | ⟨b0,rfl⟩ <;> simp [hk]
   have hTcn:Tc.Nodup:=by
    rcases hTx with rfl | ⟨b0,rfl⟩
    ·exact nx
    ·exact (List.nodup_cons.1 nx).2
   refine fin none hg (fun k hk => by cases hk) (fun q hq => ?_) (fun hd => ?_) (fun hb => ?_) (.inr ⟨Nat.le_refl _,by omega⟩) (fun k hk => ⟨hsub k hk,by simp⟩) hTcn
   ·obtain ⟨v,hv⟩:=h.pext.there _ _ hq
    have:=World.block_lt_of_cell? w ⟨w.heap.size,q,none⟩ hv
    exact absurd this (by simp)
   ·have:=(hTlt _ (List.mem_append_right _ (hD _ hd).1)).2; omega
   ·rcases List.mem_append.1 hb with hb | hb
    ·have:=(hTlt _ (List.mem_append_left _ (hsub _ hb))).2; omega
    ·have:=(hTlt _ (List.mem_append_right _ (hTy.subset hb))).2; omega
theorem Vg {M:Program} {e:TypeId} {τ:Ty} {ys:List τ.den} {v:Value} {T:List Nat} {m:Md} (hm:(match m with | .u _ => False | .h => False | _ => True)) (h:RepV M (.sl e τ) w P m ys v T):T = [] /\ ∃ news,RepL (RepC M τ w P .p) ys news [] /\ Second w v ys.length news:=by
 have pp:(T = [] /\ ((ys = [] /\ ∃ a,v = .slice a 0 0) \/ ∃ b off cap cells,v = .slice (some ⟨b,off,none⟩) ys.length cap /\ ys.length <= cap /\ RepL (RepC M τ w P .p) ys cells [] /\ cells.length = ys.length * τ.size /\ CellsAt w P b off cells)) ->
   T = [] /\ ∃ news,RepL (RepC M τ w P .p) ys news [] /\ Second w v ys.length news:=by
  rintro ⟨rfl,⟨rfl,ad,rfl⟩ | ⟨b,off,cap,cells,rfl,_,h3,_,h5⟩⟩
  ·refine ⟨rfl,[],⟨rfl,rfl⟩,ad,0,rfl,?_⟩
   cases ad with
   | none => exact .inl ⟨rfl,rfl,rfl⟩
   | some a => exact .inr ⟨a,rfl,by simp⟩
  ·exact ⟨rfl,cells,h3,_,cap,rfl,.inr ⟨_,rfl,fun j u hj => by rw [Addr.add_mk]; exact (h5 j u hj).1⟩⟩
 simp only [RepV] at h
 cases m with
 | p => exact pp h
 | s _ _ => exact pp h
 | u _ => exact hm.elim
 | h => exact hm.elim
theorem Acr {M:Program} {e:TypeId} {τ:Ty} {ys:List τ.den} {v:Value} {T:List Nat} {c:Md} (h:RepV M (.sl e τ) w P (.u c) ys v T):∃ news Tc,RepL (RepC M τ w P c) ys news Tc /\ Second w v ys.length news /\ (Tc = T \/ ∃ b,T = b :: Tc):=by
 simp only [RepV] at h
 rcases h with ⟨rfl,rfl,rfl⟩ | ⟨b,cap,cells,Tc,rfl,_,_,_,h5,_,h7,rfl,_⟩
 ·exact ⟨[],[],⟨rfl,rfl⟩,⟨none,0,rfl,.inl ⟨rfl,rfl,rfl⟩⟩,.inl rfl⟩
 ·exact ⟨cells,Tc,h5,⟨_,cap,rfl,.inr ⟨_,rfl,fun j u hj => by rw [Addr.add_mk]; exact h7 j u hj⟩⟩,.inr ⟨b,rfl⟩⟩
theorem Af1 {Q:Exit -> Act -> World -> Prop} (h:Sim C fr a w P T) {o:Oper} {cl:Call} (ho:o.op = .call cl) {x yo:Operand} {t:TypeId} (hcc:cl.callee = .builtin .append) (hargs:cl.args.toList = [x,yo]) (htys:cl.argTypes.toList = [t,t])
  {Tb:Tab} (hT:TabOk C.M Tb) (his:Tb.isV t (opx fr x).1 = true) {dl:List Nat} {r:Res Unit} (hs:sAppend dl Tb fr x yo = some r) {pin:Nat -> Bool} {ds:List Nat} (hc:OpC C pin ds fr o.dst r) {z:r.X} (hz:r.run () = some z):Goal C fr a w o Q r z:=by
 unfold sAppend at hs
 split at hs
 ·rename_i e τ c fx ux hkx
  have hk:=(Tab.of_isV hT his (Adh hkx)).kind
  split at hs
  ·rename_i hcond
   have hflat:τ.flat = true:=by simp only [Bool.and_eq_true] at hcond; exact hcond.1
   unfold Oo at hs
   split at hs
   ·rename_i p hp
    split at hs
    ·rename_i k hlk
     obtain ⟨m,f,get,set,rfl,hroot,hsub,hown,hcell⟩:=look_eq hlk
     split at hs
     ·rename_i eq _
      split at hs
      rotate_left
      ·cases hs
      rename_i hcd
      simp only [Bool.and_eq_true,List.all_eq_true,bne_iff_ne,ne_eq] at hcd
      cases hs
      obtain ⟨pi,pt0,pq,pt,pis⟩:=p
      simp only at eq
      subst eq
      have hz:(fx ()).bind (fun l => (get (f ()) (pis ())).bind fun b => addI (show List τ.den from l) (show List τ.den from b)) = some z:=hz
      cases hfx:fx () with
      | none => rw [hfx] at hz; cases hz
      | some xs =>
       rw [hfx] at hz
       cases hcon:get (f ()) (pis ()) with
       | none => rw [hcon] at hz; cases hz
       | some ys =>
        rw [hcon] at hz
        have hz:addI (show List τ.den from xs) (show List τ.den from ys) = some z:=hz
        unfold addI at hz
        split at hz
        ·rename_i hm
         cases hz
         obtain ⟨Tx,Tn,tk⟩:=take_ok h hkx hfx
         obtain ⟨L,cs,h1,h2,h3,h4⟩:=vlu_rep h hp hroot hcell
         obtain ⟨hin,cs',T1,T',T2,at_,hv,F,rfl,hLi⟩:=h.focus hroot hsub hown hcell hcon h2
         have hrc:=F.rep
         have hcs:cs' = cs:=Loc.is_unique hLi h3 (by rw [(RepC.length _ hrc).1,h4])
         subst hcs
         have hrv:=Bh _ hrc
         have hvy:valOf (.sl e τ) cs' = a.eval yo:=h1.symm
         rw [hvy] at hrv
         obtain ⟨news,hry,hsec⟩:∃ news,RepL (RepC C.M τ w (P.add w []) c) (show List τ.den from ys) news [] /\ Second w (a.eval yo) (show List τ.den from ys).length news:=by
          have hnh:=hcd.2
          generalize m.at pq = mm at hrv hnh
          cases mm with
          | p => obtain ⟨_,news,k1,k2⟩:=Vg (m:=.p) trivial hrv; exact ⟨news,RepL.flat hflat k1,k2⟩
          | s _ _ => obtain ⟨_,news,k1,k2⟩:=Vg (m:=.s _ _) trivial hrv; exact ⟨news,RepL.flat hflat k1,k2⟩
          | h => simp [Ty.nh] at hnh
          | u c' => obtain ⟨news,Tc,k1,k2,_⟩:=Acr hrv; exact ⟨news,RepL.flat hflat k1,k2⟩
         have tk2:TakeU C a w P T ux (Tx ++ []) Tn:=by rw [List.append_nil]; exact tk.u
         exact Ye h ho hcc hargs htys hk hc (fun _ _ _ _ _ _ hr => hr) rfl tk2 tk.rep (D:=[]) (by simp) (List.nil_sublist _) hry hsec hm
        ·cases hz
     ·cases hs
    ·cases hs
   ·cases hs
  ·unfold Ot at hs
   split at hs
   ·rename_i e' t' m fy uy hky
    split at hs
    ·rename_i eq _
     subst eq
     split at hs
     ·rename_i hcd
      simp only [Bool.and_eq_true,List.all_eq_true,bne_iff_ne,ne_eq] at hcd
      cases hs
      have hz:(fx ()).bind (fun l => (fy ()).bind fun b => addI (show List t'.den from l) (show List t'.den from b)) = some z:=hz
      cases hfx:fx () with
      | none => rw [hfx] at hz; cases hz
      | some xs =>
       rw [hfx] at hz
       cases hfy:fy () with
       | none => rw [hfy] at hz; cases hz
       | some ys =>
        rw [hfy] at hz
        have hz:addI (show List t'.den from xs) (show List t'.den from ys) = some z:=hz
        unfold addI at hz
        split at hz
        ·rename_i hm
         cases hz
         obtain ⟨Tx,Tn,tk⟩:=take_ok h hkx hfx
         obtain ⟨Tz,Tn2,tk2⟩:=take_ok h hky hfy
         obtain ⟨Tn3,tk3⟩:=TakeU.both h tk.u tk2.u hcd.2
         have hus:∀ X,(usX ux ++ usX uy:List (Nat × ((e:Ent) × (Unit -> X -> e.pay)))) = usX (ux ++ uy):=fun X => by simp [usX]
         obtain ⟨D,Ty,news,hD,hTy,hry,hsec⟩:∃ D Ty news,(∀ k ∈ D,k ∈ Tz /\ k ∉ Ty) /\ List.Sublist Ty Tz /\ RepL (RepC C.M t' w (P.add w D) c) (show List t'.den from ys) news Ty /\ Second w (a.eval yo) (show List t'.den from ys).length news:=by
          have hle:=hcd.1
          have hrv:=tk2.rep
          have hnz:=tk2.nodup
          simp only at hle hrv
          cases m with
          | p =>
           obtain ⟨rfl,news,k1,k2⟩:=Vg (m:=.p) trivial hrv
           obtain ⟨T',D,s1,d1,r1⟩:=RepL.coerce (R:=fun P => RepC C.M t' w P .p) (R':=fun P => RepC C.M t' w P c) (fun r hk => RepC.mono t' r hk) k1 List.nodup_nil (fun y cs T' hs hn r => RepC.coerce t' r hle hn)
           exact ⟨D,T',news,fun k hk => d1 k hk,s1,r1,k2⟩
          | s _ _ =>
           obtain ⟨rfl,news,k1,k2⟩:=Vg (m:=.s _ _) trivial hrv
           obtain ⟨T',D,s1,d1,r1⟩:=RepL.coerce (R:=fun P => RepC C.M t' w P .p) (R':=fun P => RepC C.M t' w P c) (fun r hk => RepC.mono t' r hk) k1 List.nodup_nil (fun y cs T' hs hn r => RepC.coerce t' r hle hn)
           exact ⟨D,T',news,fun k hk => d1 k hk,s1,r1,k2⟩
          | h => cases hle
          | u c' =>
           obtain ⟨news,Tc,k1,k2,k3⟩:=Acr hrv
           have hTc:List.Sublist Tc Tz:=by
            rcases k3 with rfl | ⟨b,rfl⟩
            ·exact List.Sublist.refl _
            ·exact List.sublist_cons_self _ _
           obtain ⟨T',D,s1,d1,r1⟩:=RepL.coerce (R:=fun P => RepC C.M t' w P c') (R':=fun P => RepC C.M t' w P c) (fun r hk => RepC.mono t' r hk) k1 (hnz.sublist hTc) (fun y cs T' hs hn r => RepC.coerce t' r hle hn)
           exact ⟨D,T',news,fun k hk => ⟨hTc.subset (d1 k hk).1,(d1 k hk).2⟩,s1.trans hTc,r1,k2⟩
         exact Ye h ho hcc hargs htys hk hc (fun _ _ _ _ _ _ hr => hr) (hus _) tk3 tk.rep hD hTy hry hsec hm
        ·cases hz
     ·cases hs
    ·cases hs
   ·cases hs
 ·cases hs
end
end Go.Abs
