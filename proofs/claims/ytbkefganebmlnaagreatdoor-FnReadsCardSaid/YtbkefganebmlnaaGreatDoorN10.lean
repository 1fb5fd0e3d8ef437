/-
  The meta layer, part 10: results taken apart; new variables and slices; parts of slices; append; conversions.
-/
import Derived.Test.YtbkefganebmlnaaGreatDoorN9
import Derived.Laws.OwnMore
import Derived.ArgAppend
import Derived.Laws.BytesString
namespace Go.Abs
open Go.RowKit
set_option linter.unusedVariables false
set_option linter.unusedSimpArgs false
section
variable {C:Cx} {fr:Fr} {a:Act} {w:World} {P:Prot} {T:Nat -> List Nat}
theorem RepVs.hole {M:Program} {w:World} {P:Prot}:∀ {ts:List Ty} {j:Nat} {t:Ty} {g:Ty.dens ts -> t.den} {s:Ty.dens ts -> t.den -> Ty.dens ts},fld ts j = some ⟨t,g,s⟩ -> t.cell = true ->
  ∀ {m:Md} {x:Ty.dens ts} {vs:List Value} {T:List Nat},RepVs M ts w P m x vs T -> ∃ v T1 T2 T3,vs[j]? = some v /\ T = T1 ++ (T2 ++ T3) /\ RepV M t w P (m.nth j) (g x) v T2 /\ RepVs M ts w P (m.setNth j .h) x vs (T1 ++ T3)
 | [],_,_,_,_,h,_,_,_,_,_,_ => by cases h
 | t :: ts,0,_,_,_,h,hc,m,x,vs,T,hr => by
  simp only [fld,Option.some.injEq,Sigma.mk.injEq] at h
  obtain ⟨rfl,h⟩:=h
  have h':=eq_of_heq h
  cases h'
  simp only [RepVs] at hr
  obtain ⟨v,r,T1,T2,rfl,rfl,h1,h2⟩:=hr
  refine ⟨v,[],T1,T2,rfl,rfl,h1,?_⟩
  simp only [RepVs,Md.setNth,Md.hd,Md.tl]
  exact ⟨v,r,[],T2,rfl,rfl,RepV.hole hc h1,h2⟩
 | t :: ts,j + 1,_,_,_,h,hc,m,x,vs,T,hr => by
  simp only [fld] at h
  split at h
  ·rename_i t' g s hf
   simp only [Option.some.injEq,Sigma.mk.injEq] at h
   obtain ⟨rfl,h⟩:=h
   have h':=eq_of_heq h
   cases h'
   simp only [RepVs] at hr
   obtain ⟨v,r,T1,T2,rfl,rfl,h1,h2⟩:=hr
   obtain ⟨u,U1,U2,U3,k1,rfl,k2,k3⟩:=RepVs.hole hf hc h2
   refine ⟨u,T1 ++ U1,U2,U3,by simpa using k1,by simp,k2,?_⟩
   simp only [RepVs,Md.setNth,Md.hd,Md.tl]
   exact ⟨v,r,T1,U1 ++ U3,rfl,by simp,h1,k3⟩
  ·cases h
theorem Adt {Q:Exit -> Act -> World -> Prop} (h:Sim C fr a w P T) {o:Oper} {x:Operand} {j:Nat} (ho:o.op = .extract x j)
  {r:Res Unit} {dl:List Nat} (hs:J1 dl fr x j (opx fr x) = some r) {pin:Nat -> Bool} {ds:List Nat} (hc:OpC C pin ds fr o.dst r) {z:r.X}:Goal C fr a w o Q r z:=by
 obtain ⟨Tx,hrep,hTx⟩:=opx_rep h x
 unfold J1 at hs
 split at hs
 ·rename_i ts m f i hx hsl
  have hxi:=Mv hsl
  subst hxi
  split at hs
  ·rename_i τ get set hf
   split at hs
   ·cases hs
   ·rename_i hcell
    have hcell:τ.cell = true:=by simpa using hcell
    rw [hx] at hrep
    have hroot:fr i = ⟨.val (.tup ts) m,f⟩:=opx_at hx (by simp) (by simp)
    have hlt:i < gB:=opx_g (fr:=fr) (x:=.tmp i) (fun e => by rw [hx] at e; exact absurd (congrArg Sigma.fst e) (by simp [Ex.non])) rfl
    obtain ⟨hin,hrv⟩:=h.root hroot
    simp only [RepV] at hrv
    obtain ⟨vs,hv,hr⟩:=hrv
    obtain ⟨v,T1,T2,T3,k1,k2,k3,k4⟩:=RepVs.hole hf hcell hr
    have hev:a.eval (.tmp i) = .tuple (List.toArray vs):=(Cx.at_n hlt).symm.trans hv
    have hrun:(execOp a.eval o).run C.M w = .ok (.value v) w:=by
     simp [execOp,ho,Instr.extract,hev,k1]
    split at hs
    ·rename_i hfz
     cases hs
     exact h.plain hc hrun rfl (RepV.fz_nil _ k3 hfz ▸ k3)
    ·cases hs
     have hnd:=h.nodup i
     rw [k2] at hnd
     obtain ⟨n1,n2,n3⟩:=List.nodup_append.1 hnd
     obtain ⟨n4,n5,n6⟩:=List.nodup_append.1 n2
     have tk:TakeU C a w P T ((i,⟨.val (.tup ts) (m.setNth j .h),f⟩) :: hung dl fr i) T2 (fun t => if t = i then T1 ++ T3 else []):=by
      refine ⟨n4,fun b hb => ⟨i,by simp,by rw [k2]; simp [hb]⟩,fun t => ?_,fun t ht => ?_,fun p hp tm Tf => ?_⟩
      ·split
       ·rename_i ht
        subst ht
        refine ⟨List.nodup_append.2 ⟨n1,n5,fun b hb c hc => n3 b hb c (by simp [hc])⟩,fun b hb => ⟨by rw [k2]; grind,fun hb' => ?_⟩⟩
        rcases List.mem_append.1 hb with hb | hb
        ·exact n3 b hb b (by simp [hb']) rfl
        ·exact n6 b hb' b hb rfl
       ·exact ⟨List.nodup_nil,by simp⟩
      ·rw [if_neg (fun e => ht (by simp [e]))]
      ·rcases List.mem_cons.1 hp with rfl | hp
       ·rw [if_pos rfl]
        simp only [RepE,RepV]
        exact ⟨vs,hv,k4⟩
       ·obtain ⟨e,hon⟩:=Kq (M:=C.M) (w:=w) (P:=P) hp
        have hne:p.1 ≠ i:=fun e' => by rw [e',hroot] at hon; simp [Ent.onT] at hon
        rw [e,if_neg hne]
        rfl
     obtain ⟨Tn',hd⟩:=h.give hc rfl tk (y:=z) (v:=v) h.pext (Nat.le_refl _) (fun S _ => Keeps.refl w P S) (fun _ _ => k3) n4 (fun b hb => .inl hb)
     exact Jh hrun (h.did hc hd)
  ·cases hs
 ·cases hs
mutual
theorem Pn {M:Program} {w:World} {P:Prot}:(t:Ty) -> (z:t.den) -> t.zero = some z -> RepC M t w P t.all z t.zcells []
 | .int k,z,h => by
  cases (show some (0:Int) = some z from h)
  simp [RepC,Ty.zcells]
 | .bool,z,h => by
  cases (show some false = some z from h)
  simp [RepC,Ty.zcells]
 | .str,z,h => by
  cases (show some ([]:List UInt8) = some z from h)
  simp [RepC,Ty.zcells]
 | .sl e t,z,h => by
  cases (show some ([]:List t.den) = some z from h)
  simp only [RepC,Ty.zcells]
  exact ⟨_,rfl,.inl ⟨rfl,rfl,rfl⟩⟩
 | .st ts,z,h => by
  simp only [RepC,Ty.zcells,Ty.all]
  exact Abh ts z (show Ty.zeros ts = some z from h)
 | .fn ps r,z,h => by cases (show (none:Option (Ty.fn ps r).den) = some z from h)
 | .tup ts,z,h => by cases (show (none:Option (Ty.tup ts).den) = some z from h)
 | .ptr t,z,h => by cases (show (none:Option (Ty.ptr t).den) = some z from h)
theorem Abh {M:Program} {w:World} {P:Prot}:(ts:List Ty) -> (z:Ty.dens ts) -> Ty.zeros ts = some z -> RepCs M ts w P (Ty.alls ts) z (Ty.zcellss ts) []
 | [],z,h => by simp [RepCs,Ty.zcellss]
 | t :: ts,z,h => by
  have h':(match t.zero,Ty.zeros ts with | some x,some y => some ((x,y):Ty.dens (t :: ts)) | _,_ => none) = some z:=h
  split at h'
  ·rename_i x y hx hy
   cases h'
   simp only [RepCs,Ty.zcellss,Ty.alls,Md.hd,Md.tl]
   exact ⟨_,_,[],[],rfl,rfl,Pn t x hx,Abh ts y hy⟩
  ·cases h'
end
theorem Sim.fresh (h:Sim C fr a w P T) {pin:Nat -> Bool} {ds:List Nat} {dst:Option Nat} {r:Res Unit} (hc:OpC C pin ds fr dst r) (hus:r.us = []) {y:r.X} {v:Value} {o:Obj}
  (hx:∀ tm Tf,(∀ x,¬ P w.heap.size x) -> (∀ S:List Nat,(∀ b ∈ S,b < w.heap.size) -> Keeps w P (w.alloc o) P S) -> RepE C.M (w.alloc o) P tm Tf ⟨r.e,fun _ => r.f () y⟩ v [w.heap.size]) :
  ∃ P' T',Sim C (updF fr dst ⟨r.e,fun _ => r.f () y⟩ (r.ws y)) (a.put dst v) (w.alloc o) P' T':=by
 obtain ⟨g1,g2,g3⟩:=h.alloced o
 obtain ⟨Tn',hd⟩:=h.give hc (us:=[]) (by rw [hus]; rfl) TakeU.nil (y:=y) (v:=v) (Td:=[w.heap.size]) g2 (by simp) (fun S hS => g1 S fun b hb => (hS b hb).1) (fun tm Tf => hx tm Tf g3 g1) (by simp) (fun b hb => .inr (by simp at hb; subst hb; simp))
 exact h.did hc hd
theorem Ahb {Q:Exit -> Act -> World -> Prop} (h:Sim C fr a w P T) {o:Oper} {t:TypeId} (ho:o.op = .alloc t)
  {Tb:Tab} (hT:TabOk C.M Tb) {r:Res Unit} (hs:sAlloc Tb t = some r) {pin:Nat -> Bool} {ds:List Nat} (hc:OpC C pin ds fr o.dst r) {z:r.X}:Goal C fr a w o Q r z:=by
 unfold sAlloc at hs
 split at hs
 ·rename_i ty hty
  split at hs
  ·rename_i z0 hz0
   split at hs
   ·rename_i hcell
    cases hs
    obtain ⟨i,hi,_,hzero⟩:=(hT _ _ hty).info
    have hzr:=Pn (M:=C.M) (w:=w) (P:=P) ty z0 hz0
    have hcv:=N6 ty hzr
    have hrun:(execOp a.eval o).run C.M w = .ok (.value (.pointer (some ⟨w.heap.size,0,none⟩))) (w.alloc (.cells (valOf ty ty.zcells).cells t)):=by
     simp [execOp,ho,Instr.alloc,zeroValue,typeInfo,hi,hzero _ hz0,newVar,newRow]
    refine Jh hrun (h.fresh hc rfl fun tm Tf g3 g1 => ?_)
    have hnew:(w.alloc (.cells (valOf ty ty.zcells).cells t)).heap[w.heap.size]? = some (.cells (valOf ty ty.zcells).cells t (0,0)):=heap_alloc_new w _
    simp only [RepE,RepV]
    refine ⟨w.heap.size,ty.zcells,[],t,rfl,⟨_,hnew,by rw [<- Array.length_toList,hcv]⟩,RepC.mono ty hzr (g1 [] (by simp)),fun j v hj => ?_,rfl,g3⟩
    rw [cell_of_row _ _ _ _ t (0,0) hnew,Nat.zero_add]
    rw [<- hcv] at hj
    simpa using hj
   ·cases hs
  ·cases hs
 ·cases hs
theorem X8 {M:Program} {w:World} {P:Prot} {t:Ty} {z:t.den} (hz:t.zero = some z):∀ n,RepL (RepC M t w P t.all) (List.replicate n z) (List.replicate n t.zcells).flatten []
 | 0 => ⟨rfl,rfl⟩
 | n + 1 => ⟨t.zcells,(List.replicate n t.zcells).flatten,[],[],by simp [List.replicate_succ],rfl,Pn t z hz,X8 hz n⟩
theorem Aeo (zs:List Value):∀ n,((List.range (n * zs.length)).map fun i => (List.toArray zs)[i % zs.length]!) = (List.replicate n zs).flatten:=by
 intro n
 induction n with
 | zero => simp
 | succ n ih =>
  rw [Nat.add_mul,Nat.one_mul,List.range_add,List.map_append,ih,List.replicate_succ',List.flatten_append]
  congr 1
  simp only [List.map_map,List.flatten_cons,List.flatten_nil,List.append_nil]
  refine List.ext_getElem? fun j => ?_
  simp only [List.getElem?_map,Function.comp_def]
  rcases Nat.lt_or_ge j zs.length with hj | hj
  ·rw [List.getElem?_range hj]
   simp only [Option.map_some]
   have:(n * zs.length + j) % zs.length = j:=by
    rw [Nat.mul_comm,Nat.mul_add_mod,Nat.mod_eq_of_lt hj]
   rw [this]
   simp [hj]
  ·rw [List.getElem?_eq_none (by simpa using hj),List.getElem?_eq_none hj]
   rfl
theorem Aan (zs:List Value) (n:Nat):madeCells (List.toArray zs) (n * zs.length) = List.toArray (List.replicate n zs).flatten:=by
 apply Array.ext'
 unfold madeCells
 rw [Array.toList_map,Array.toList_range]
 simpa using Aeo zs n
theorem Afu {α:Type} (n:Nat) (zs:List α):(List.replicate n zs).flatten.length = n * zs.length:=by
 induction n with
 | zero => simp
 | succ n ih => rw [List.replicate_succ,List.flatten_cons,List.length_append,ih,Nat.add_mul]; omega
theorem Abf {M:Program} {w:World} {P:Prot} {e:TypeId} {t:Ty} {c:Md} {x:List t.den} {cells:List Value} {Tc:List Nat} (hr:RepL (RepC M t w P c) x cells Tc) (hl:cells.length = x.length * t.size) (hx:x.length <= maxLen)
  (hf:∀ q,¬ P w.heap.size q) (hT:∀ b ∈ Tc,b < w.heap.size) (hk:∀ S:List Nat,(∀ b ∈ S,b < w.heap.size) -> Keeps w P (w.alloc (.cells (List.toArray cells) e)) P S) :
  RepV M (.sl e t) (w.alloc (.cells (List.toArray cells) e)) P (.u c) x (.slice (some ⟨w.heap.size,0,none⟩) x.length x.length) (w.heap.size :: Tc):=by
 have hnew:(w.alloc (.cells (List.toArray cells) e)).heap[w.heap.size]? = some (.cells (List.toArray cells) e (0,0)):=heap_alloc_new w _
 simp only [RepV]
 refine .inr ⟨w.heap.size,x.length,cells,Tc,rfl,Nat.le_refl _,hx,⟨_,hnew,by simpa using hl⟩,hr.mono fun y cs T' hs r => RepC.mono t r (hk T' fun b hb => hT b (hs b hb)),hl,fun j v hj => ?_,rfl,hf⟩
 rw [cell_of_row _ _ _ _ e (0,0) hnew,Nat.zero_add]
 simpa using hj
theorem Acq:room <= maxLen:=by decide
theorem Aao {Q:Exit -> Act -> World -> Prop} (h:Sim C fr a w P T) {o:Oper} {t:TypeId} {l c:Operand} (ho:o.op = .makeSlice t l c)
  {Tb:Tab} (hT:TabOk C.M Tb) {r:Res Unit} (hs:N1 Tb t (opx fr l) (opx fr c) = some r) {pin:Nat -> Bool} {ds:List Nat} (hc:OpC C pin ds fr o.dst r) {z:r.X} (hz:r.run () = some z):Goal C fr a w o Q r z:=by
 unfold N1 at hs
 split at hs
 ·rename_i e ty m1 f m2 g hty hl hcp
  split at hs
  ·rename_i z0 hz0
   cases hs
   obtain ⟨hu,i,zz,hi,hzi,hsz,hzs,hpos,hby,hzv,_⟩:=(hT _ _ hty).kind
   have hl':=opx_int h hl
   have hc':=opx_int h hcp
   have hz:(if eqZ (f ()) (g ()) = true then zerosI (f ()) z0 else none) = some z:=hz
   split at hz
   ·rename_i heq
    have heq:(show Int from f ()) = g ():=eq_of_beq (α:=Int) heq
    unfold zerosI at hz
    split at hz
    ·rename_i hn
     cases hz
     generalize hk:(show Int from f ()).toNat = k
     have hfk:(f ():Int) = (k:Int):=by rw [<- hk]; exact (Int.toNat_of_nonneg hn.1).symm
     have hkr:k <= room:=by
      have h2:(show Int from f ()) <= (room:Int):=hn.2
      have:(k:Int) <= (room:Int):=by rw [<- hfk]; exact h2
      omega
     have hkr':=hkr
     simp only [room] at hkr'
     have hzz:=hzv z0 hz0
     have hzr:=Pn (M:=C.M) (w:=w) (P:=P) ty z0 hz0
     have hcv:=N6 ty hzr
     have hzc:zz.cells = List.toArray ty.zcells:=by rw [hzz,<- hcv,Array.toArray_toList,hcv]
     have hzl:ty.zcells.length = ty.size:=(RepC.length ty hzr).1
     have hmk:=run_make (P:=C.M) w t e i zz hu hi hzi .i64 .i64 (k:Int) (k:Int) (by omega) (by omega) (by
      have:(i.bytes:Int) * (k:Int) <= ((4096 * 2 ^ 32:Nat):Int):=by
       have:=Nat.mul_le_mul hby hkr'
       exact_mod_cast this
      simp at this
      omega) (by omega)
     simp only [Int.toNat_natCast,hzc,hsz] at hmk
     rw [<- hzl,Aan] at hmk
     have hrun:(execOp a.eval o).run C.M w = .ok (.value (.slice (some ⟨w.heap.size,0,none⟩) k k)) (w.alloc (.cells (List.toArray (List.replicate k ty.zcells).flatten) e)):=by
      have hg:(g ():Int) = (k:Int):=heq.symm.trans hfk
      simp only [execOp,ho,hl',hc',hfk,hg,Sem.run_bind,hmk,Result.andThen_ok,Sem.run_pure]
     refine Jh hrun (h.fresh hc rfl fun tm Tf g3 g1 => ?_)
     have hlen:(List.replicate k z0).length = k:=by simp
     have:=Abf (e:=e) (X8 (M:=C.M) (w:=w) (P:=P) hz0 k) (by rw [Afu,hlen,hzl]) (by rw [hlen]; exact Nat.le_trans hkr Acq) g3 (by simp) g1
     rw [hlen] at this
     exact this
    ·cases hz
   ·cases hz
  ·cases hs
 ·cases hs
theorem Tv {M:Program} {w:World} {P:Prot} {k:IntKind} {m:Md}:∀ {xs:List Int} {cs:List Value} {T:List Nat},RepL (RepC M (.int k) w P m) xs cs T -> cs = xs.map (Value.int k)
 | [],_,_,h => by rw [h.1]; rfl
 | x :: xs,_,_,⟨c1,c2,T1,T2,rfl,rfl,h1,h2⟩ => by
  simp only [RepC] at h1
  rw [h1.1,Tv h2]
  rfl
theorem Adw (ns:List Int):∀ (s:ByteArray),ns.foldl (fun r n => r.push (UInt8.ofNat n.toNat)) s = ⟨s.data ++ List.toArray (ns.map fun n => UInt8.ofNat n.toNat)⟩:=by
 induction ns with
 | nil => intro s; simp
 | cons n ns ih =>
  intro s
  rw [List.foldl_cons,ih]
  apply ByteArray.ext
  simp [ByteArray.push]
theorem Aem {Q:Exit -> Act -> World -> Prop} (h:Sim C fr a w P T) {o:Oper} {src dst:TypeId} {x:Operand} (ho:o.op = .convert src dst x)
  {Tb:Tab} (hT:TabOk C.M Tb) (his:Tb.isV src (opx fr x).1 = true) {r:Res Unit} (hs:Rg Tb src dst (opx fr x) = some r) {pin:Nat -> Bool} {ds:List Nat} (hc:OpC C pin ds fr o.dst r) {z:r.X}:Goal C fr a w o Q r z:=by
 unfold Rg at hs
 split at hs
 ·rename_i k' m f k hx hd
  rw [hx] at his
  have h1:=opx_int h hx
  have hu:=(hT _ _ hd).kind
  have hu':=(Tab.of_isV hT his rfl).kind
  refine h.plain1 (t:=.int k) hs hc (v:=.int k (k.wrap (f ()))) ?_ (by simp [RepV,wrapI])
  simp [execOp,ho,convert,run_underlying hu,run_underlying hu',h1,Conv.intToInt]
 ·rename_i e m f hx hd
  rw [hx] at his
  have hud:=(hT _ _ hd).kind
  have hk:=(Tab.of_isV hT his rfl).kind
  obtain ⟨hu,i,zz,hi,hzi,hsz,hzs,hpos,hby,hzv,hel⟩:=hk
  have hue:=hel .u8 rfl
  split at hs
  ·rename_i hnh
   obtain ⟨Tx,hrep,_⟩:=opx_rep h x
   rw [hx] at hrep
   have key:∀ ad cap,a.eval x = .slice ad (show List Int from f ()).length cap -> ((show List Int from f ()) = [] \/ ∃ b off,ad = some ⟨b,off,none⟩ /\ CellsIn w b off ((show List Int from f ()).map (Value.int .u8))) ->
     (execOp a.eval o).run C.M w = .ok (.value (.string ⟨List.toArray (ofBytes (show List Int from f ()))⟩)) w:=by
    intro ad cap hv hh
    have hcv:=run_convert_bytes_string (P:=C.M) w src dst e ad (show List Int from f ()).length cap hu hue hud
    have hb:(Conv.bytesToString (.slice ad (show List Int from f ()).length cap)).run C.M w = .ok (.string ⟨List.toArray (ofBytes (show List Int from f ()))⟩) w:=by
     cases ad with
     | none =>
      rcases hh with hh | ⟨b,off,hb,_⟩
      ·simp [Conv.bytesToString,ofBytes,hh]
       rfl
      ·cases hb
     | some ad =>
      have hld:(loadCells ad (show List Int from f ()).length).run C.M w = .ok ((show List Int from f ()).map (Value.int .u8)).toArray w:=by
       rcases hh with hh | ⟨b,off,hb,hcells⟩
       ·rw [hh]
        have:=run_loadCells_list (P:=C.M) w ad [] (by simp)
        simpa using this
       ·cases hb
        have:=run_loadCells_list (P:=C.M) w ⟨b,off,none⟩ ((show List Int from f ()).map (Value.int .u8)) (fun j v hj => by rw [Addr.add_mk]; exact hcells j v hj)
        rw [List.length_map] at this
        exact this
      rw [run_bytesToString w ad _ cap _ hld,Adw]
      simp [ofBytes]
    simp only [execOp,ho,Sem.run_bind,hv,hcv,hb,Result.andThen_ok,Sem.run_pure]
   refine h.plain1 (t:=.str) hs hc (v:=.string ⟨List.toArray (ofBytes (show List Int from f ()))⟩) ?_ (by simp [RepV])
   simp only [RepE,RepV] at hrep
   have pp:(Tx = [] /\ ((f () = [] /\ ∃ ad,a.eval x = .slice ad 0 0) \/ ∃ b off cap cells,a.eval x = .slice (some ⟨b,off,none⟩) (show List Int from f ()).length cap /\ (show List Int from f ()).length <= cap /\ RepL (RepC C.M (.int .u8) w P .p) (show List Int from f ()) cells [] /\ cells.length = (show List Int from f ()).length * 1 /\ CellsAt w P b off cells)) ->
     (execOp a.eval o).run C.M w = .ok (.value (.string ⟨List.toArray (ofBytes (show List Int from f ()))⟩)) w:=by
    rintro ⟨_,⟨h1,ad,hv⟩ | ⟨b,off,cap,cells,hv,_,hr,_,hcells⟩⟩
    ·have h1:(show List Int from f ()) = []:=h1
     exact key ad 0 (by rw [hv,h1]; rfl) (.inl h1)
    ·rw [Tv hr] at hcells
     exact key _ cap hv (.inr ⟨b,off,rfl,fun j v hj => (hcells j v hj).1⟩)
   cases m with
   | p => exact pp hrep
   | s _ _ => exact pp hrep
   | h => simp [Ty.nh] at hnh
   | u c =>
    rcases hrep with ⟨h1,_,hv⟩ | ⟨b,cap,cells,Tc,hv,_,_,_,hr,_,hcells,_⟩
    ·have h1:(show List Int from f ()) = []:=h1
     exact key none 0 (by rw [hv,h1]; rfl) (.inl h1)
    ·rw [Tv hr] at hcells
     exact key _ cap hv (.inr ⟨b,0,rfl,hcells⟩)
  ·cases hs
 ·cases hs
end
end Go.Abs
