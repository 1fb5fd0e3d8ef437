/-
  The meta layer, part 9: stores; results taken apart.
-/
import Derived.Test.YtbkefganebmlnaaGreatDoorN8
namespace Go.Abs
open Go.RowKit
set_option linter.unusedVariables false
set_option linter.unusedSimpArgs false
theorem Oq (w:World) (b o k:Nat) (v:Value) (hk:k ≠ b):(w.setCell ⟨b,o,none⟩ v).heap[k]? = w.heap[k]?:=by
 unfold World.setCell
 simp only [Array.getElem?_modify,if_neg (Ne.symm hk)]
theorem Ack (w:World) (b o c:Nat) (v:Value) {e:TypeId} {n:Nat} (h:RowIs w c e n):RowIs (w.setCell ⟨b,o,none⟩ v) c e n:=by
 by_cases hc:c = b
 ·subst hc
  obtain ⟨cur,h1,h2⟩:=h
  refine ⟨cur.setIfInBounds o v,?_,by simpa using h2⟩
  unfold World.setCell
  simp only [Array.getElem?_modify,if_true,h1,Option.map_some]
  rfl
 ·obtain ⟨cur,h1,h2⟩:=h
  exact ⟨cur,by rw [Oq w b o c v hc]; exact h1,h2⟩
theorem Nf (b:Nat):∀ (vs:List Value) (o:Nat) (w:World),(∀ k,k ≠ b -> (w.setCells b o vs).heap[k]? = w.heap[k]?) /\ (∀ c e n,RowIs w c e n -> RowIs (w.setCells b o vs) c e n) /\
  (w.setCells b o vs).heap.size = w.heap.size /\ (w.setCells b o vs).os = w.os /\ (w.setCells b o vs).tape = w.tape /\ (w.setCells b o vs).output = w.output
 | [],o,w => ⟨fun _ _ => rfl,fun _ _ _ h => h,rfl,rfl,rfl,rfl⟩
 | v :: vs,o,w => by
  obtain ⟨h1,h2,h3,h4,h5,h6⟩:=Nf b vs (o + 1) (w.setCell ⟨b,o,none⟩ v)
  exact ⟨fun k hk => (h1 k hk).trans (Oq w b o k v hk),fun c e n h => h2 c e n (Ack w b o c v h),h3.trans (by simp [World.setCell]),h4,h5,h6⟩
theorem S6 {w:World} {b:Nat} {e:TypeId} {n:Nat} (h:RowIs w b e n) (o:Nat):w.frozen? ⟨b,o,none⟩ = false:=by
 obtain ⟨cur,h1,_⟩:=h
 unfold World.frozen?
 simp only [h1]
 simp
theorem RepC.cell_of {M:Program} {w:World} {P:Prot} {t:Ty} {m:Md} {x:t.den} {cs:List Value} {T:List Nat} (h:RepC M t w P m x cs T):t.cell = true:=by
 cases t <;> first | rfl | simp [RepC] at h
mutual
theorem RepC.rows {M:Program} {w:World} {P:Prot}:(t:Ty) -> ∀ {m:Md} {x:t.den} {cs:List Value} {T:List Nat},RepC M t w P m x cs T -> ∀ b ∈ T,∃ e n,RowIs w b e n
 | .int k,_,_,_,_,h => by simp only [RepC] at h; rw [h.2]; simp
 | .bool,_,_,_,_,h => by simp only [RepC] at h; rw [h.2]; simp
 | .str,_,_,_,_,h => by simp only [RepC] at h; rw [h.2]; simp
 | .sl e t,m,x,_,_,h => by
  simp only [RepC] at h
  obtain ⟨v,hv,h⟩:=h
  cases m with
  | p => rw [h.1]; simp
  | h => rw [h.1]; simp
  | s _ _ => rw [h.1]; simp
  | u c =>
   rcases h with ⟨_,h,_⟩ | ⟨b,cap,cells,Tc,h1,h2,h3,h4,h5,h6,h7,rfl,h9⟩
   ·rw [h]; simp
   ·intro q hq
    rcases List.mem_cons.1 hq with rfl | hq
    ·exact ⟨_,_,h4⟩
    ·have:∀ (xs:List t.den) (cs:List Value) (T:List Nat),RepL (RepC M t w P c) xs cs T -> ∀ b ∈ T,∃ e n,RowIs w b e n:=by
      intro xs
      induction xs with
      | nil => intro cs T h; rw [h.2]; simp
      | cons x xs ih =>
       rintro cs T ⟨c1,c2,T1,T2,rfl,rfl,k1,k2⟩ b hb
       rcases List.mem_append.1 hb with hb | hb
       ·exact RepC.rows t k1 b hb
       ·exact ih _ _ k2 b hb
     exact this _ _ _ h5 q hq
 | .ptr t,m,_,_,_,h => by
  simp only [RepC] at h
  obtain ⟨v,hv,h⟩:=h
  cases m with
  | p => rw [h.1]; simp
  | h => rw [h.1]; simp
  | s _ _ => rw [h.1]; simp
  | u c =>
   obtain ⟨b,cells,Tc,e,h1,h2,h3,h4,rfl,h6⟩:=h
   intro q hq
   rcases List.mem_cons.1 hq with rfl | hq
   ·exact ⟨_,_,h2⟩
   ·exact RepC.rows t h3 q hq
 | .st ts,_,_,_,_,h => by
  simp only [RepC] at h
  exact RepCs.rows ts h
 | .fn ps r,_,_,_,_,h => by simp only [RepC] at h; rw [h.1]; simp
 | .tup _,_,_,_,_,h => by simp only [RepC] at h
theorem RepCs.rows {M:Program} {w:World} {P:Prot}:(ts:List Ty) -> ∀ {m:Md} {x:Ty.dens ts} {cs:List Value} {T:List Nat},RepCs M ts w P m x cs T -> ∀ b ∈ T,∃ e n,RowIs w b e n
 | [],_,_,_,_,h => by simp only [RepCs] at h; rw [h.2]; simp
 | t :: ts,_,_,_,_,h => by
  simp only [RepCs] at h
  obtain ⟨c1,c2,T1,T2,rfl,rfl,h1,h2⟩:=h
  intro b hb
  rcases List.mem_append.1 hb with hb | hb
  ·exact RepC.rows t h1 b hb
  ·exact RepCs.rows ts h2 b hb
end
theorem PExt.add2 {F:List Nat} {w0 w w1:World} {P0 P:Prot} (h:PExt F w0 P0 w P) {D:List Nat} (hD:∀ b ∈ D,w0.heap.size <= b \/ b ∈ F) (ht:There w (P.add w1 D)):PExt F w0 P0 w (P.add w1 D):=
 ⟨h.os,h.tape,h.output,h.size,h.block,h.free,fun b o hp => .inl (h.prot b o hp),fun b o hp => by
  rcases hp with hp | ⟨hp,_⟩
  ·exact h.old b o hp
  ·exact .inr (hD b hp),ht⟩
section
variable {C:Cx} {fr:Fr} {a:Act} {w:World} {P:Prot} {T:Nat -> List Nat}
theorem Sim.wrote (h:Sim C fr a w P T) {b:Nat} (hb:C.w0.heap.size <= b \/ b ∈ C.F) (hf:∀ o,¬ P b o) (o:Nat) (vs:List Value) (hex:∀ j,j < vs.length -> (w.cell? ⟨b,o + j,none⟩).isSome = true) :
  PExt C.F C.w0 C.P0 (w.setCells b o vs) P /\ (w.setCells b o vs).heap.size = w.heap.size /\ (∀ S:List Nat,b ∉ S -> Keeps w P (w.setCells b o vs) P S) /\ CellsIn (w.setCells b o vs) b o vs /\
   (∀ c q,¬ (c = b /\ o <= q /\ q < o + vs.length) -> (w.setCells b o vs).cell? ⟨c,q,none⟩ = w.cell? ⟨c,q,none⟩) /\ (∀ c e n,RowIs w c e n -> RowIs (w.setCells b o vs) c e n):=by
 obtain ⟨h1,h2,h3,h4,h5,h6⟩:=Nf b vs o w
 have hout:∀ c q,¬ (c = b /\ o <= q /\ q < o + vs.length) -> (w.setCells b o vs).cell? ⟨c,q,none⟩ = w.cell? ⟨c,q,none⟩:=fun c q hq =>
  World.cell?_setCells_out b vs o w ⟨c,q,none⟩ fun e _ => by
   have e:c = b:=e
   show q < o \/ o + vs.length <= q
   rcases Nat.lt_or_ge q o with hlt | hge
   ·exact .inl hlt
   ·right
    rcases Nat.lt_or_ge q (o + vs.length) with h' | h'
    ·exact absurd ⟨e,hge,h'⟩ hq
    ·exact h'
 have hl:Later w P (w.setCells b o vs) P:=⟨by omega,fun _ _ h => h,fun c q v hp hv => by
  rw [hout c q (fun e => hf q (e.1 ▸ hp))]; exact hv,fun c q _ hp => h1 c fun e => hf q (e ▸ hp)⟩
 refine ⟨⟨h4.trans h.pext.os,h5.trans h.pext.tape,h6.trans h.pext.output,by rw [h3]; exact h.pext.size,fun k hk hF => ?_,h.pext.free,h.pext.prot,h.pext.old,fun c q hp => ?_⟩,h3,fun S hS => ⟨hl,fun c hc => ?_,fun _ _ _ hp => hp⟩,?_,hout,h2⟩
 ·rw [h1 k (fun e => by subst e; rcases hb with hb | hb; omega; exact hF hb)]
  exact h.pext.block k hk hF
 ·obtain ⟨v,hv⟩:=h.pext.there c q hp
  exact ⟨v,hl.cell c q v hp hv⟩
 ·exact .of (h1 c fun e => hS (e ▸ hc))
 ·intro j v hj
  have hlt:=(List.getElem?_eq_some_iff.1 hj).1
  rw [World.cell?_setCells_in b vs o w hex j hlt]
  rw [List.getElem?_eq_getElem hlt] at hj
  exact hj
theorem Qr {M:Program} {w:World} {t:TypeId} {ty:Ty} (hk:TnOk M t ty) {b off:Nat} {v:Value} (hs:v.cells.toList.length = ty.size) (h1c:∀ u ∈ v.cells.toList,u.oneCell' = true)
  (hc:∀ j,j < v.cells.toList.length -> (w.cell? ⟨b,off + j,none⟩).isSome = true) (hf:∀ j,w.frozen? ⟨b,j,none⟩ = false) :
  (storeVar t ⟨b,off,none⟩ v).run M w = .ok () (w.setCells b off v.cells.toList):=by
 obtain ⟨i,hi,his,_⟩:=hk.info
 have hsz:v.cells.size = i.size:=by rw [his,<- hs,Array.length_toList]
 have hst:=run_storeCells_cells (P:=M) b off v.cells.toList 0 w (by simpa using hc) (fun j _ => hf _) h1c
 simp only [Nat.add_zero] at hst
 simp only [storeVar,Sem.run_bind,sizeOf,typeInfo,run_program,Result.andThen_ok,hi,Sem.run_pure,hsz]
 simp only [ne_eq,not_true,if_false,hst]
theorem Cx.at_ghost {b k:Nat} (hgb:C.gb = some b) (hk:k < 64):C.at a w (gB + k) = (w.cell? ⟨b,k,none⟩).getD undef:=by
 unfold Cx.at
 rw [if_neg (by omega),hgb]
 simp only
 rw [if_neg (by unfold gB gK; omega),show gB + k - gB = k by omega]
theorem Ae9 {Q:Exit -> Act -> World -> Prop} (h:Sim C fr a w P T) {o:Oper} (hod:o.dst = none) {t:TypeId} {x vo:Operand} (ho:o.op = .store t x vo)
  {Tb:Tab} (hT:TabOk C.M Tb) (his:Tb.isA t (opx fr x).1 = true) {dl:List Nat} {pin:Nat -> Bool} {k:Nat} {τ:Ty} {f:Unit -> (Ent.pb k τ).pay} (hx:opx fr x = ⟨.pb k τ,f⟩)
  {r:Res Unit} (hs:sStoreG dl pin fr vo k τ = some r) {ds:List Nat} (hc:OpC C pin ds fr o.dst r) {z:r.X} (hz:r.run () = some z):Goal C fr a w o Q r z:=by
 obtain ⟨Tx0,hrep,_⟩:=opx_rep h x
 rw [hx] at hrep his
 have hk:=Tab.of_isA hT his rfl
 obtain ⟨_,b,n,hK,hadr,hlen⟩:=hrep
 obtain ⟨hgb,hgn⟩:=Cx.at_gb hK
 subst hgn
 obtain ⟨o1,o2,o3,⟨re,o4⟩,o5⟩:=h.gown b hgb
 unfold sStoreG at hs
 split at hs
 ·rename_i hpart
  rw [Bool.and_eq_true] at hpart
  have hk64:k < 64:=Nat.le_of_ble_eq_true hpart.2
  split at hs
  ·rename_i v hv
   split at hs
   ·rename_i e _
    obtain ⟨vt,vm,vf,vus⟩:=v
    simp only at e
    subst e
    simp only at hs
    split at hs
    ·rename_i hcond
     simp only [Bool.and_eq_true,List.all_eq_true,bne_iff_ne,ne_eq] at hcond
     obtain ⟨hdisj,hself⟩:=hcond
     cases hs
     have hz:vf () = some z:=hz
     obtain ⟨Tx,Tn,tk⟩:=take_ok h hv hz
     obtain ⟨hvu,hvc⟩:=tk.rep.part hpart.1
     have hsz:vt.size = 1:=by revert hpart; cases vt <;> simp [Ty.part,Ty.size]
     have hvc':(a.eval vo).cells.toList = [a.eval vo]:=by rw [hvc]
     have hrow:∃ cur,w.heap[b]? = some (.cells cur re (0,0)) /\ cur.size = C.gn:=o4
     have hex:∀ j,j < (a.eval vo).cells.toList.length -> (w.cell? ⟨b,k + j,none⟩).isSome = true:=fun j hj => by
      rw [hvc'] at hj
      have hj:j = 0:=by simpa using hj
      subst hj
      obtain ⟨cur,c1,c2⟩:=hrow
      have hlt:k + 0 < cur.size:=by omega
      simp [World.cell?,c1]; omega
     obtain ⟨g1,g2,g3,g4,g5,g6⟩:=h.wrote o1 o5 k (a.eval vo).cells.toList hex
     have hl1:(a.eval vo).cells.toList.length = vt.size:=by rw [hvc',hsz]; rfl
     have hone:∀ u ∈ (a.eval vo).cells.toList,u.oneCell' = true:=(RepC.length vt (Bb vt (by revert hpart; cases vt <;> simp [Ty.part,Ty.cell]) tk.rep).1).2
     have hrun:(execOp a.eval o).run C.M w = .ok .skip (w.setCells b k (a.eval vo).cells.toList):=by
      have:=Qr hk (b:=b) (off:=k) (v:=a.eval vo) hl1 hone hex (fun j => S6 o4 j)
      simp [execOp,ho,hadr,Instr.storeAt,Instr.sureAddr,this]
     generalize hw2:w.setCells b k (a.eval vo).cells.toList = w2 at g1 g2 g3 g4 g5 g6 hrun
     rw [hvc'] at g4 g5
     have hbT:∀ t,b ∉ T t:=o3
     have hTx:∀ c ∈ Tx,∃ j,c ∈ T j:=fun c hc => by
      obtain ⟨j,_,hj⟩:=tk.sub c hc
      exact ⟨j,hj⟩
     have hTxg:∀ c ∈ Tx,c ∉ T (gB + k):=fun c hc => by
      obtain ⟨j,hj,hcj⟩:=tk.sub c hc
      obtain ⟨q,hq,rfl⟩:=List.mem_map.1 hj
      exact h.apart _ _ (hdisj q hq).1 c hcj
     have hval:C.at a w2 (gB + k) = a.eval vo:=by
      rw [Cx.at_ghost hgb hk64]
      have:=g4 0 (a.eval vo) rfl
      rw [Nat.add_zero] at this
      rw [this]
      rfl
     have hat:∀ t,t ≠ gB + k -> C.at a w2 t = C.at a w t:=fun t ht => by
      unfold Cx.at
      split
      ·rfl
      ·rename_i hge
       rw [hgb]
       simp only
       split
       ·rfl
       ·rw [g5 b (t - gB) (fun e => ht (by simp at e; omega))]
     refine Acv hrun ?_
     rw [hod]
     rw [hod] at hc
     have hni:gB + k ∉ vus.map (·.1):=fun hm => by
      obtain ⟨q,hq,e⟩:=List.mem_map.1 hm
      exact (hdisj q hq).1 e
     have hput:a.put none undef = a:=rfl
     rw [hput]
     have hTnd:∀ j,∀ c ∈ Tn j,c ∉ Tx:=fun j c hc => ((tk.tn j).2 c hc).2
     refine ⟨P,_,h.updG (dst:=none) (v:=undef) (fun j => if j = gB + k then Tx else Tn j) (fun d hd => by cases hd) (fun p hp => ?_) (fun t i hi hon => ?_) g1 (by omega) (fun S hS => g3 S fun hb => (hS b hb).2.2 hgb) (fun b' hb' => ?_) (fun t ht => ?_) (fun d hd => by cases hd) (fun p hp _ => ?_) (fun j => ?_) (fun j u hju c hc => ?_) (fun j c hcj => ?_)⟩
     ·obtain ⟨q,hq,rfl⟩:=Res.mem_ws hp
      exact hc.us q hq
     ·rw [Res.wdom_ws] at hi ⊢
      obtain ⟨p,hp,rfl⟩:=List.mem_map.1 hi
      rcases hc.cov t p hp hon with h | ⟨p',h1,rfl⟩
      ·exact .inl h
      ·exact .inr (List.mem_map_of_mem h1)
     ·rw [hgb] at hb'; cases hb'
      exact ⟨⟨re,g6 b re _ o4⟩,o5⟩
     ·refine hat t fun e => ht ?_
      rw [Res.wdom_ws,e]
      simp only [List.map_append,usX_map,List.map_cons,List.mem_append,List.mem_cons]
      exact .inr (.inl trivial)
     ·obtain ⟨q,hq,rfl⟩:=Res.mem_ws hp
      simp only [List.mem_append,List.mem_cons] at hq
      rcases hq with hq | rfl | hq
      ·have hq':=hq
       obtain ⟨u,hu,rfl⟩:=mem_usX hq'
       have hui:=(hdisj u hu).1
       simp only
       rw [if_neg hui,hat _ hui]
       have hown:=(hc.us _ (List.mem_append.2 (.inl hq))).2
       exact RepE.own_mono hown (tk.turned u hu) (g3 _ (fun hb => hbT u.1 ((tk.tn u.1).2 b hb).1)) _ _
      ·simp only [if_true]
       rw [hval]
       exact RepV.mono vt tk.rep (g3 _ (fun hb => by obtain ⟨j,hj⟩:=hTx b hb; exact hbT j hj))
      ·obtain ⟨u,hu,rfl⟩:=mem_usX hq
       obtain ⟨e,hon⟩:=Kq (M:=C.M) (w:=w) (P:=P) hu
       have hne:u.1 ≠ gB + k:=fun e' => hself u hu e'
       simp only
       rw [if_neg hne,tk.none u.1 (fun hm => ?_),e]
       ·rfl
       ·obtain ⟨q,hq,e'⟩:=List.mem_map.1 hm
        exact (hdisj q hq).2 u hu e'.symm
     ·split
      ·exact tk.nodup
      ·exact (tk.tn j).1
     ·split at hc
      ·rename_i hj
       split
       ·rename_i hu; exact absurd (hj.trans hu.symm) hju
       ·intro hcu; exact hTnd u c hcu hc
      ·rename_i hj
       split
       ·intro hcu; exact hTnd j c hc hcu
       ·exact fun hcu => h.apart j u hju c ((tk.tn j).2 c hc).1 ((tk.tn u).2 c hcu).1
     ·left
      rw [Res.wdom_ws]
      simp only [List.map_append,usX_map,List.map_cons,List.flatMap_append,List.flatMap_cons,List.mem_append]
      split at hcj
      ·obtain ⟨i,hi,hci⟩:=tk.sub c hcj
       exact .inl (List.mem_flatMap.2 ⟨i,hi,hci⟩)
      ·by_cases hj:j ∈ vus.map (·.1)
       ·exact .inl (List.mem_flatMap.2 ⟨j,hj,((tk.tn j).2 c hcj).1⟩)
       ·rw [tk.none j hj] at hcj; simp at hcj
    ·cases hs
   ·cases hs
  ·cases hs
 ·cases hs
theorem Ag0 {Q:Exit -> Act -> World -> Prop} (h:Sim C fr a w P T) {o:Oper} (hod:o.dst = none) {t:TypeId} {x vo:Operand} (ho:o.op = .store t x vo)
  {Tb:Tab} (hT:TabOk C.M Tb) (his:Tb.isA t (opx fr x).1 = true) {dl:List Nat} {pin:Nat -> Bool} {dm:Nat -> Option Md} {r:Res Unit} (hs:sStore dl pin dm fr x vo (opx fr x) = some r) {ds:List Nat} (hc:OpC C pin ds fr o.dst r) {z:r.X} (hz:r.run () = some z):Goal C fr a w o Q r z:=by
 unfold sStore at hs
 split at hs
 ·rename_i p hp
  have hty:(opx fr x).1.tyA = some p.t:=by
   generalize opx fr x = ex at hp
   obtain ⟨e,f⟩:=ex
   cases e <;> simp only [adrOf] at hp <;> try (cases hp; done)
   case val t m =>
    cases t <;> try (cases hp; done)
    cases m <;> try (cases hp; done)
    simp only at hp
    split at hp
    ·cases hp; rfl
    ·cases hp
   case pl => cases hp; rfl
  have hk:=Tab.of_isA hT his hty
  split at hs
  ·rename_i k hlk
   obtain ⟨m,f,get,set,rfl,hroot,hsub,hown,hcell⟩:=look_eq hlk
   split at hs
   ·rename_i v hv
    split at hs
    ·rename_i e _
     obtain ⟨vt,vm,vf,vus⟩:=v
     simp only at e
     subst e
     simp only at hs
     generalize hm':(if noIdx p.q = true then fitM p.t vm (match dm p.i with | some d => some (d.at p.q) | none => none) else m.at p.q) = m' at hs
     split at hs
     ·rename_i hcond
      simp only [Bool.and_eq_true,List.all_eq_true,bne_iff_ne,ne_eq] at hcond
      obtain ⟨hle,hdisj⟩:=hcond
      cases hs
      -- the place,and what is stored
      obtain ⟨b,off,hadr,hres⟩:=adr_rep h hp
      have hz:(get (f ()) (p.is ())).bind (fun _ => vf ()) = some z:=hz
      cases hcon:get (f ()) (p.is ()) with
      | none => rw [hcon] at hz; cases hz
      | some y =>
      rw [hcon] at hz
      have hz:vf () = some z:=hz
      obtain ⟨hin,cs',T1,T',T2,at_,hval,F,hLat,hLi⟩:=h.focus hroot hsub hown hcell hcon hres
      obtain ⟨Tx,Tn,tk⟩:=take_ok h hv hz
      have hpc:p.t.cell = true:=RepC.cell_of F.rep
      obtain ⟨hvc,hvv⟩:=Bb p.t hpc tk.rep
      obtain ⟨Tx',D,s1,d1,r1⟩:=RepC.coerce p.t hvc hle tk.nodup
      obtain ⟨hvl,hv1⟩:=RepC.length p.t hvc
      have hl2:=(RepC.length p.t F.rep).1
      have hbT:b ∈ T p.i:=(res_inU _ (L:=.vals _) trivial hres).1
      have hfree:∀ c ∈ T p.i,∀ q,¬ P c q:=by
       obtain ⟨_,hrv⟩:=h.root hroot
       exact RepC.free _ (Bb _ hcell hrv).1
      have hTxi:∀ c ∈ Tx,c ∉ T p.i:=fun c hc => by
       obtain ⟨j,hj,hcj⟩:=tk.sub c hc
       obtain ⟨q,hq,rfl⟩:=List.mem_map.1 hj
       exact h.apart _ _ (hdisj q hq).1 c hcj
      have hDTx:∀ c ∈ D,c ∈ Tx:=fun c hc => (d1 c hc).1
      have hrow:∃ e n,RowIs w b e n:=by
       obtain ⟨_,hrv⟩:=h.root hroot
       have key:∀ (t:Ty) {m:Md} {x:t.den} {cs:List Value} {T:List Nat},RepC C.M t w P m x cs T -> ∀ b ∈ T,∃ e n,RowIs w b e n:=fun t => RepC.rows t
       exact key _ (Bb _ hcell hrv).1 b hbT
      obtain ⟨re,rn,hrow⟩:=hrow
      have hcs:CellsIn w b off cs':=hLi
      have hex:∀ j,j < (a.eval vo).cells.toList.length -> (w.cell? ⟨b,off + j,none⟩).isSome = true:=fun j hj => by
       have hj':j < cs'.length:=by rw [hl2,<- hvl]; exact hj
       rw [hcs j _ (List.getElem?_eq_getElem hj')]
       rfl
      have hbn:=h.new p.i b hbT
      obtain ⟨g1,g2,g3,g4,g5,g6⟩:=h.wrote hbn.1 (hfree b hbT) off (a.eval vo).cells.toList hex
      have hrun:(execOp a.eval o).run C.M w = .ok .skip (w.setCells b off (a.eval vo).cells.toList):=by
       have:=Qr hk (b:=b) (off:=off) (v:=a.eval vo) hvl hv1 hex (fun j => S6 hrow j)
       simp [execOp,ho,hadr,Instr.storeAt,Instr.sureAddr,this]
      have g7:=(Nf b (a.eval vo).cells.toList off w).1
      generalize hw2:w.setCells b off (a.eval vo).cells.toList = w2 at g1 g2 g3 g4 g5 g6 g7 hrun
      have hbTx:b ∉ Tx:=fun hb => hTxi b hb hbT
      have hDi:∀ c ∈ D,c ∉ T p.i:=fun c hc => hTxi c (hDTx c hc)
      have hkd:∀ S:List Nat,b ∉ S -> (∀ c ∈ S,c ∉ D) -> Keeps w P w2 (P.add w D) S:=fun S hS hd => by
       have k1:=g3 S hS
       exact ⟨⟨k1.later.size,fun c q hp => .inl hp,k1.later.cell,k1.later.blk⟩,k1.block,fun c hc q hq => by
        rcases hq with hq | ⟨hq,_⟩
        ·exact hq
        ·exact absurd hq (hd c hc)⟩
      -- the stored value at the later time
      have hst:RepC C.M p.t w2 (P.add w D) m' z (a.eval vo).cells.toList Tx':=by
       refine RepC.mono p.t r1 ⟨⟨by omega,fun _ _ hp => hp,fun c q v hp hv => ?_,fun c q _ hp => g7 c fun e => ?_⟩,fun c hc => (g3 [c] (fun hm => hbTx (by simp only [List.mem_singleton] at hm; rw [hm]; exact s1.subset hc))).block c (by simp),fun _ _ _ hp => hp⟩
       rw [g5 c q (fun e => ?_)]
       ·exact hv
       ·rcases hp with hp | ⟨hp,_⟩
        ·exact hfree b hbT q (e.1 ▸ hp)
        ·exact hDi c hp (e.1 ▸ hbT)
       rcases hp with hp | ⟨hp,_⟩
       ·exact hfree b hbT q (e ▸ hp)
       ·exact hDi c hp (e ▸ hbT)
      have hmm:((if noIdx p.q = true then m.setAt p.q m' else m) = m /\ m' = m.at p.q) \/ (noIdx p.q = true /\ (if noIdx p.q = true then m.setAt p.q m' else m) = m.setAt p.q m'):=by
       by_cases hni:noIdx p.q = true
       ·exact .inr ⟨hni,if_pos hni⟩
       ·exact .inl ⟨if_neg hni,by rw [<- hm',if_neg hni]⟩
      have hsplit:=F.split
      have hpre:∀ c ∈ T1 ++ T2,c ∈ T p.i:=fun c hc => by rw [hsplit]; grind
      obtain ⟨cs'',q1,q2⟩:=F.plug (.vals (C.at a w p.i).cells.toList) w2 (P.add w D) m' _ z (a.eval vo).cells.toList Tx' rfl (fun _ _ => trivial) ⟨by omega,fun _ _ hp => .inl hp,(g3 [] (by simp)).later.cell,(g3 [] (by simp)).later.blk⟩ hst (by rw [<- hLat]; exact g4)
       (fun c _ e n hr => g6 c e n hr)
       (fun c hc q hq => g5 c q (fun e => hq (by rw [<- hLat]; exact ⟨e.1.symm ▸ rfl,e.2.1,by rw [hl2,<- hvl]; exact e.2.2⟩))) (fun c q hx _ => hx.elim)
       (fun c hc q hq => by
        rcases hq with hq | ⟨hq,_⟩
        ·exact hq
        ·exact absurd (hpre c hc) (hDi c hq)) hmm
      have q1:(C.at a w p.i).cells.toList = cs'':=q1
      subst q1
      have hrv2:=Bh p.t0 q2
      rw [hval] at hrv2
      have hnd:=h.nodup p.i
      rw [hsplit] at hnd
      obtain ⟨n1,n2,n3⟩:=List.nodup_append.1 hnd
      obtain ⟨n4,n5,n6⟩:=List.nodup_append.1 n2
      have hTx'i:∀ c ∈ Tx',c ∉ T p.i:=fun c hc => hTxi c (s1.subset hc)
      refine Acv hrun ?_
      rw [hod]
      have hni:p.i ∉ vus.map (·.1):=fun hm => by
       obtain ⟨q,hq,e⟩:=List.mem_map.1 hm
       exact (hdisj q hq).1 e
      have hput:a.put none undef = a:=rfl
      have hTnd:∀ j,∀ c ∈ Tn j,c ∉ Tx':=fun j c hc hc' => ((tk.tn j).2 c hc).2 (s1.subset hc')
      have hTni:∀ j,j ≠ p.i -> ∀ c ∈ Tn j,c ∉ T p.i:=fun j hj c hc => h.apart j p.i hj c ((tk.tn j).2 c hc).1
      have hdid:Did C fr a w P T none _ z undef w2 (P.add w D) (fun j => if j = p.i then T1 ++ (Tx' ++ T2) else Tn j):=by
       refine ⟨g1.add2 (fun c hc => ?_) ?_,by omega,fun S hS => hkd S (fun hb => ?_) (fun c hc hcD => ?_),fun d hd => (by cases hd),fun q hq tm Tf => ?_,fun j => ?_,fun j u hju c hc => ?_,fun j c hc => ?_⟩
       ·obtain ⟨j,_,hj⟩:=tk.sub c (hDTx c hc)
        exact (h.new j c hj).1
       ·intro c q hq
        rcases hq with hq | ⟨hq,v,hv⟩
        ·exact g1.there c q hq
        ·exact ⟨v,by rw [g5 c q (fun e => hDi c hq (e.1 ▸ hbT))]; exact hv⟩
       ·exact (hS b hb).2 (List.mem_flatMap.2 ⟨p.i,by simp,hbT⟩)
       ·obtain ⟨j,hj,hcj⟩:=tk.sub c (hDTx c hcD)
        refine (hS c hc).2 (List.mem_flatMap.2 ⟨j,?_,hcj⟩)
        simp only [List.map_append,usX_map,List.mem_append]
        exact .inl hj
       ·simp only [List.mem_append,List.mem_cons] at hq
        rcases hq with hq | rfl | hq
        ·have hq':=hq
         obtain ⟨u,hu,rfl⟩:=mem_usX hq'
         have hui:=(hdisj u hu).1
         rw [if_neg hui]
         have hown:=(hc.us _ (List.mem_append.2 (.inl hq))).2
         exact RepE.own_mono hown (tk.turned u hu) (hkd _ (fun hb => hTni u.1 hui b hb hbT) (fun c hc hcD => ((tk.tn u.1).2 c hc).2 (hDTx c hcD))) tm Tf
        ·rw [if_pos rfl]
         exact hrv2
        ·obtain ⟨u,hu,rfl⟩:=mem_usX hq
         obtain ⟨e,hon⟩:=Kq (M:=C.M) (w:=w) (P:=P) hu
         have hne:u.1 ≠ p.i:=fun e' => by rw [e',hroot] at hon; simp [Ent.onT] at hon
         rw [if_neg hne,tk.none u.1 (fun hm => ?_),e]
         ·rfl
         ·obtain ⟨q,hq,e'⟩:=List.mem_map.1 hm
          exact (hdisj q hq).2 u hu e'.symm
       ·split
        ·refine List.nodup_append.2 ⟨n1,List.nodup_append.2 ⟨tk.nodup.sublist s1,n5,fun c hc d hd e => ?_⟩,fun c hc d hd e => ?_⟩
         ·subst e; exact hTx'i c hc (hpre c (by simp [hd]))
         ·subst e
          rcases List.mem_append.1 hd with hd | hd
          ·exact hTx'i c hd (hpre c (by simp [hc]))
          ·exact n3 c hc c (by simp [hd]) rfl
        ·exact (tk.tn j).1
       ·have hroots:∀ c,c ∈ T1 ++ (Tx' ++ T2) -> c ∈ T p.i \/ c ∈ Tx':=fun c hc => by
         simp only [List.mem_append] at hc
         rcases hc with hc | hc | hc
         ·exact .inl (hpre c (by simp [hc]))
         ·exact .inr hc
         ·exact .inl (hpre c (by simp [hc]))
        split at hc
        ·rename_i hj
         split
         ·rename_i hu; exact absurd (hj.trans hu.symm) hju
         ·rename_i hu
          intro hcu
          rcases hroots c hc with h' | h'
          ·exact hTni u hu c hcu h'
          ·exact hTnd u c hcu h'
        ·rename_i hj
         split
         ·intro hcu
          rcases hroots c hcu with h' | h'
          ·exact hTni j hj c hc h'
          ·exact hTnd j c hc h'
         ·exact fun hcu => h.apart j u hju c ((tk.tn j).2 c hc).1 ((tk.tn u).2 c hcu).1
       ·left
        simp only [List.map_append,usX_map,List.map_cons,List.flatMap_append,List.flatMap_cons,List.mem_append]
        split at hc
        ·simp only [List.mem_append] at hc
         rcases hc with hc | hc | hc
         ·exact .inr (.inl (hpre c (by simp [hc])))
         ·obtain ⟨i,hi,hci⟩:=tk.sub c (s1.subset hc)
          exact .inl (List.mem_flatMap.2 ⟨i,hi,hci⟩)
         ·exact .inr (.inl (hpre c (by simp [hc])))
        ·by_cases hj:j ∈ vus.map (·.1)
         ·exact .inl (List.mem_flatMap.2 ⟨j,hj,((tk.tn j).2 c hc).1⟩)
         ·rw [tk.none j hj] at hc; simp at hc
      have:=h.did (by rw [hod] at hc; exact hc) hdid
      rw [hput] at this
      exact this
     ·cases hs
    ·cases hs
   ·cases hs
  ·cases hs
 ·cases hs
theorem Afr {Q:Exit -> Act -> World -> Prop} (h:Sim C fr a w P T) {o:Oper} (hod:o.dst = none) {t:TypeId} {x vo:Operand} (ho:o.op = .store t x vo)
  {Tb:Tab} (hT:TabOk C.M Tb) (his:Tb.isA t (opx fr x).1 = true) {dl:List Nat} {pin:Nat -> Bool} {dm:Nat -> Option Md} {r:Res Unit} (hs:sStoreX dl pin dm fr x vo (opx fr x) = some r) {ds:List Nat} (hc:OpC C pin ds fr o.dst r) {z:r.X} (hz:r.run () = some z):Goal C fr a w o Q r z:=by
 unfold sStoreX at hs
 split at hs
 ·rename_i k τ f heq
  exact Ae9 h hod ho hT his heq hs hc hz
 ·exact Ag0 h hod ho hT his hs hc hz
end
end Go.Abs
