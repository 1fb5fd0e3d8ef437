/-
  The meta layer, part 7: copies, fields of values, addresses of elements, lengths.
-/
import Derived.Test.YtbkefganebmlnaaGreatDoorN6
import Derived.Laws.StructEq
namespace Go.Abs
open Go.RowKit
set_option linter.unusedVariables false
set_option linter.unusedSimpArgs false
theorem Loc.is_unique {w:World} {L:Loc} {cs cs':List Value} (h1:L.is w cs) (h2:L.is w cs') (hl:cs.length = cs'.length):cs = cs':=by
 cases L with
 | vals l => exact (show l = cs from h1).symm.trans h2
 | mem b' o' =>
  refine List.ext_getElem? fun j => ?_
  rcases Nat.lt_or_ge j cs.length with hj | hj
  ·have e1:cs[j]? = some cs[j]:=List.getElem?_eq_getElem hj
   have e2:cs'[j]? = some cs'[j]:=List.getElem?_eq_getElem (by omega)
   have:=(h1 j _ e1).symm.trans (h2 j _ e2)
   rw [e1,e2,this]
  ·rw [List.getElem?_eq_none hj,List.getElem?_eq_none (by omega)]
theorem Loc.is_sub {w:World} {L:Loc} {cs:List Value} (h:L.is w cs) (a n:Nat):(L.sub a n).is w ((cs.drop a).take n):=by
 cases L with
 | vals l => show (l.drop _).take _ = _; rw [show l = cs from h]
 | mem b' o' =>
  intro q v hq
  rw [List.getElem?_take] at hq
  split at hq
  ·rw [List.getElem?_drop] at hq
   have:=h _ v hq
   rwa [<- Nat.add_assoc] at this
  ·cases hq
theorem Zo {M:Program} {w:World} {t:TypeId} {ts:List Ty} (hk:TyOk M t (.st ts)) {j:Nat} {τ:Ty} (hj:ts[j]? = some τ) {fs:Array Field} (hu:M.underlying t = some (.struct fs)) {f:Field} (hf:fs[j]? = some f)
  {cs:List Value} (hl:offs ts j + τ.size <= cs.length) :
  (part f.type (List.toArray cs) f.offset).run M w = .ok (valOf τ ((cs.drop (offs ts j)).take τ.size)) w:=by
 obtain ⟨fs',hu',_,_,_,hfs⟩:=hk
 rw [hu] at hu'
 cases hu'
 obtain ⟨f',dd,h1,h2,h2',h3,h3',h4,h5⟩:=hfs j τ hj
 rw [hf] at h1
 cases h1
 cases hi:M.info? f.type with
 | none => rw [hi] at h4; cases h4
 | some i =>
  rw [hi] at h4
  have hs:i.size = τ.size:=by simpa using h4
  have hagg:(∀ us,τ ≠ .st us) -> (isAgg f.type).run M w = .ok false w:=by
   intro hne
   cases dd <;> simp only at h5 <;> first | (obtain ⟨us,hus⟩:=h5; exact absurd hus (hne us)) | simp [isAgg,run_underlying h3']
  have one:(∀ us,τ ≠ .st us) -> τ.size = 1 -> (isAgg f.type).run M w = .ok false w -> (part f.type (List.toArray cs) f.offset).run M w = .ok (valOf τ ((cs.drop (offs ts j)).take τ.size)) w:=by
   intro hne h1 hagg
   rw [h1] at hl ⊢
   have hg:cs[offs ts j]? = some (cs[offs ts j]'(by omega)):=List.getElem?_eq_getElem (by omega)
   have ht:(cs.drop (offs ts j)).take 1 = [cs[offs ts j]'(by omega)]:=by
    rw [List.drop_eq_getElem_cons (by omega)]; rfl
   have hv:valOf τ [cs[offs ts j]'(by omega)] = cs[offs ts j]'(by omega):=by
    cases τ <;> first | rfl | exact absurd rfl (hne _)
   rw [ht,hv]
   simp [part,hagg,h2,hg]
  cases τ with
  | st us =>
   have hag:(isAgg f.type).run M w = .ok true w:=by
    cases dd <;> simp only at h5 <;> first | exact absurd rfl (h5 us) | simp [isAgg,run_underlying h3']
   simp [part,hag,h2,sizeOf,typeInfo,hi,hs,valOf]
  | int k => exact one (by simp) rfl (hagg (by simp))
  | bool => exact one (by simp) rfl (hagg (by simp))
  | str => exact one (by simp) rfl (hagg (by simp))
  | sl e u => exact one (by simp) rfl (hagg (by simp))
  | fn ps r => exact one (by simp) rfl (hagg (by simp))
  | ptr u => exact one (by simp) rfl (hagg (by simp))
  | tup us => simp [Ty.size] at h3
theorem Agc (a b:List UInt8):((⟨List.toArray a⟩:ByteArray).toList == (⟨List.toArray b⟩:ByteArray).toList) = eqS a b:=by rw [Vv,Vv]; rfl
theorem Adm:∀ (pre ts:List Ty),offs (pre ++ ts) pre.length = Ty.sizes pre
 | [],ts => by cases ts <;> rfl
 | a :: l,ts => by simp only [List.cons_append,List.length_cons,offs,Ty.sizes,Adm l ts]
theorem Xy (τ:Ty):∀ (pre:List Ty),Ty.sizes (pre ++ [τ]) = Ty.sizes pre + τ.size
 | [] => by simp [Ty.sizes]
 | a :: l => by simp only [List.cons_append,Ty.sizes,Xy τ l]; omega
theorem Uq {M:Program} {w:World} {t:TypeId} {ts0:List Ty} (hk:TnOk M t (.st ts0)) {fs:Array Field} (hu:M.underlying t = some (.struct fs)) {P P':Prot} {cs1 cs2:List Value} :
  ∀ (ts pre:List Ty),ts0 = pre ++ ts -> ∀ q,Ty.eqbs ts = some q -> ∀ (x y:Ty.dens ts) (m m':Md) (c c' d d':List Value) (T T':List Nat),cs1 = c ++ d -> cs2 = c' ++ d' -> c.length = Ty.sizes pre -> c'.length = Ty.sizes pre ->
   RepCs M ts w P m x d T -> RepCs M ts w P' m' y d' T' -> (Op.eqFields 9999 (List.toArray cs1) (List.toArray cs2) (fs.toList.drop pre.length)).run M w = .ok (q x y) w
 | [],pre,hp,q,hq,x,y,m,m',c,c',d,d',T,T',_,_,_,_,_,_ => by
  obtain ⟨fs',hu',_,_,hsz,_⟩:=hk.kind
  rw [hu] at hu'
  cases hu'
  have hd:fs.toList.drop pre.length = []:=List.drop_eq_nil_of_le (by
   have e:fs.toList.length = fs.size:=by simp
   rw [e,hsz,hp]; simp)
  rw [hd]
  simp only [Ty.eqbs] at hq
  obtain rfl:=Option.some.inj hq
  simp [Op.eqFields]
 | τ :: ts,pre,hp,q,hq,x,y,m,m',c,c',d,d',T,T',hc,hc',hl,hl',hr,hr' => by
  obtain ⟨fs',hu',_,_,hsz,hfs⟩:=hk.kind
  rw [hu] at hu'
  cases hu'
  have hj:ts0[pre.length]? = some τ:=by rw [hp]; simp
  obtain ⟨f,dd,h1,h2,h3,_⟩:=hfs pre.length τ hj
  have hlt:pre.length < fs.toList.length:=by
   have e:fs.toList.length = fs.size:=by simp
   rw [e,hsz,hp]; simp
  have hfl:fs.toList[pre.length]'hlt = f:=by
   rw [Array.getElem?_eq_getElem (by simpa using hlt)] at h1
   simpa using h1
  have hd:fs.toList.drop pre.length = f :: fs.toList.drop (pre ++ [τ]).length:=by
   rw [List.drop_eq_getElem_cons hlt,hfl]; simp
  have ho:offs ts0 pre.length = Ty.sizes pre:=by rw [hp]; exact Adm pre (τ :: ts)
  simp only [RepCs] at hr hr'
  obtain ⟨c1,c2,T1,T2,rfl,rfl,r1,r2⟩:=hr
  obtain ⟨d1,d2,U1,U2,rfl,rfl,s1,s2⟩:=hr'
  have l1:=(RepC.length τ r1).1
  have l2:=(RepC.length τ s1).1
  have p1:=Zo (w:=w) hk.kind hj hu h1 (cs:=cs1) (by rw [ho,hc]; simp; omega)
  have p2:=Zo (w:=w) hk.kind hj hu h1 (cs:=cs2) (by rw [ho,hc']; simp; omega)
  have e1:(cs1.drop (offs ts0 pre.length)).take τ.size = c1:=by rw [ho,<- hl,hc,List.drop_left,<- l1,List.take_left]
  have e2:(cs2.drop (offs ts0 pre.length)).take τ.size = d1:=by rw [ho,<- hl',hc',List.drop_left,<- l2,List.take_left]
  rw [e1] at p1
  rw [e2] at p2
  have hsz1:Ty.sizes (pre ++ [τ]) = Ty.sizes pre + τ.size:=Xy τ pre
  have ek:=hk.eqk ts0 rfl fs hu pre.length τ hj f h1
  have hone:∀ g,τ.eqb = some g -> (Op.equalIn 9999 f.type (valOf τ c1) (valOf τ d1)).run M w = .ok (g x.1 y.1) w:=by
   intro g hg
   cases τ with
   | int k =>
    simp only [RepC] at r1 s1
    obtain ⟨rfl,_⟩:=r1
    obtain ⟨rfl,_⟩:=s1
    simp only [Ty.eqb] at hg
    obtain rfl:=Option.some.inj hg
    exact run_equalIn_int w 9998 f.type k k x.1 y.1 (ek.1 k rfl)
   | bool =>
    simp only [RepC] at r1 s1
    obtain ⟨rfl,_⟩:=r1
    obtain ⟨rfl,_⟩:=s1
    simp only [Ty.eqb] at hg
    obtain rfl:=Option.some.inj hg
    exact run_equalIn_bool' w 9998 f.type x.1 y.1 (ek.2.1 rfl)
   | str =>
    simp only [RepC] at r1 s1
    obtain ⟨rfl,_⟩:=r1
    obtain ⟨rfl,_⟩:=s1
    simp only [Ty.eqb] at hg
    obtain rfl:=Option.some.inj hg
    exact (run_equalIn_string w 9998 f.type _ _ (ek.2.2 rfl)).trans (congrArg (fun b => Result.ok b w) (Agc x.1 y.1))
   | _ => simp [Ty.eqb] at hg
  rw [hd]
  simp only [Op.eqFields,if_pos h3,Sem.run_bind,p1,Result.andThen_ok,p2]
  have rest:∀ q',Ty.eqbs ts = some q' -> (Op.eqFields 9999 (List.toArray cs1) (List.toArray cs2) (fs.toList.drop (pre ++ [τ]).length)).run M w = .ok (q' x.2 y.2) w:=fun q' hq' =>
   Uq hk hu ts (pre ++ [τ]) (by rw [hp]; simp) q' hq' x.2 y.2 m.tl m'.tl (c ++ c1) (c' ++ d1) c2 d2 T2 U2 (by rw [hc]; simp) (by rw [hc']; simp) (by rw [List.length_append,hl,l1,hsz1]) (by rw [List.length_append,hl',l2,hsz1]) r2 s2
  cases ts with
  | nil =>
   simp only [Ty.eqbs] at hq
   cases hg:τ.eqb with
   | none => rw [hg] at hq; cases hq
   | some g =>
    rw [hg] at hq
    obtain rfl:=Option.some.inj hq
    have:=rest (fun _ _ => true) rfl
    rw [hone g hg]
    simp only [Result.andThen_ok]
    cases hv:g x.1 y.1
    ·simp [Sem.run_pure]
    ·simpa using this
  | cons τ' ts' =>
   simp only [Ty.eqbs] at hq
   cases hg:τ.eqb with
   | none => rw [hg] at hq; cases hq
   | some g =>
    rw [hg] at hq
    split at hq
    ·rename_i f' q' hf' hq'
     obtain rfl:=Option.some.inj hf'
     obtain rfl:=Option.some.inj hq
     have:=rest q' hq'
     rw [hone g hg]
     simp only [Result.andThen_ok]
     cases hv:g x.1 y.1
     ·simp [Sem.run_pure,iteB,hv]
     ·simpa [iteB,hv] using this
    ·cases hq
theorem Ag7 {C:Cx} {fr:Fr} {a:Act} {w:World} {P:Prot} {T:Nat -> List Nat} {Q:Exit -> Act -> World -> Prop} (h:Sim C fr a w P T) {o:Oper} {op:BinOp} {t yt:TypeId} {x y:Operand} (ho:o.op = .binOp op t x y yt)
  {ts:List Ty} {f g:Unit -> Ty.dens ts} (hx:RepV C.M (.st ts) w P .p (f ()) (a.eval x) []) (hy:RepV C.M (.st ts) w P .p (g ()) (a.eval y) []) (hk:TnOk C.M t (.st ts)) {r:Res Unit} (hs:binSt op ts f g = some r) {pin:Nat -> Bool} {ds:List Nat} (hc:OpC C pin ds fr o.dst r) {z:r.X}:Goal C fr a w o Q r z:=by
 simp only [RepV] at hx hy
 obtain ⟨cs,hx,rx⟩:=hx
 obtain ⟨ds',hy,ry⟩:=hy
 obtain ⟨fs,hu,hgd,hst,_⟩:=hk.kind
 have hff:C.M.fieldsOf t = fs:=by simp only [Program.fieldsOf,hu]
 unfold binSt at hs
 split at hs
 ·rename_i q hq
  have he:(Op.equalIn 10000 t (.agg (List.toArray cs)) (.agg (List.toArray ds'))).run C.M w = .ok (q (f ()) (g ())) w:=by
   rw [run_equalIn_struct w 9999 t _ _ (by rw [hff]; exact hu) hst,hff]
   exact Uq hk hu ts [] rfl q hq _ _ _ _ [] [] cs ds' _ _ rfl rfl rfl rfl rx ry
  split at hs
  ·refine h.plain1 (t:=.bool) hs hc (v:=.bool _) ?_ (by simp only [RepV]; exact ⟨rfl,trivial⟩)
   simp only [execOp,ho,hx,hy,Sem.run_bind,run_eqGuard_agg w _ t x y _ _ hgd,Result.andThen_ok,run_eql_struct,he,Sem.run_pure]
  ·refine h.plain1 (t:=.bool) hs hc (v:=.bool _) ?_ (by simp only [RepV]; exact ⟨rfl,trivial⟩)
   simp only [execOp,ho,hx,hy,Sem.run_bind,run_eqGuard_agg w _ t x y _ _ hgd,Result.andThen_ok,run_neq_struct,he,Sem.run_pure]; rfl
  ·cases hs
 ·cases hs
section
variable {C:Cx} {fr:Fr} {a:Act} {w:World} {P:Prot} {T:Nat -> List Nat}
theorem op_move {Q:Exit -> Act -> World -> Prop} (h:Sim C fr a w P T) {o:Oper} {x:Operand} (ho:∀ v,a.eval x = v -> (execOp a.eval o).run C.M w = .ok (.value v) w)
  {r:Res Unit} {dl:List Nat} {pin:Nat -> Bool} (hs:sMove dl pin fr x = some r) (hnt:∀ ts m f,opx fr x = ⟨.val (.tup ts) m,f⟩ -> (Ty.tup ts).fz m = true) {ds:List Nat} (hc:OpC C pin ds fr o.dst r) {z:r.X}:Goal C fr a w o Q r z:=by
 obtain ⟨Tx,hrep,hT⟩:=opx_rep h x
 unfold sMove at hs
 split at hs
 ·rename_i t m f hx
  rw [hx] at hrep
  split at hs
  ·rename_i hf
   exact h.plain1 hs hc (ho _ rfl) (RepV.shared hrep hf)
  ·rename_i hf
   cases hsl:slotOf x with
   | none => rw [hsl] at hs; cases t <;> cases hs
   | some i =>
    rw [hsl] at hs
    have hx':=Mv hsl
    have hfr:fr i = ⟨.val t m,f⟩:=by
     subst hx'
     exact opx_at hx (by simp) (fun e => by cases e; exact absurd rfl hf)
    have gen:t.cell = true -> pureR (.av i t [] t) (fun _ => []) = some r -> Goal C fr a w o Q r z:=fun hcell hs => by
     cases hs
     obtain ⟨L,cs,h1,h2,h3,h4⟩:=vlu_rep h (x:=x) (p:=⟨i,t,[],t,fun _ => []⟩) (by rw [hx]; simp only [vluOf,hsl]) hfr hcell
     exact h.plain hc (ho _ rfl) rfl ⟨rfl,L,cs,h2,h3,h4,h1⟩
    cases t with
    | ptr t' =>
     cases m with
     | u c =>
      cases hs
      obtain ⟨b,off,h1,h2⟩:=adr_rep h (x:=x) (p:=⟨i,.ptr t',[.drf],t',fun _ => []⟩) (by rw [hx]; simp only [adrOf,hsl])
      exact h.plain hc (ho _ rfl) rfl ⟨rfl,b,off,h1,h2⟩
     | p => cases hs
     | h => cases hs
     | s _ _ => cases hs
    | tup ts => exact absurd (hnt _ _ _ hx) hf
    | sl _ _ => exact gen rfl hs
    | st _ => exact gen rfl hs
    | int _ => exact gen rfl hs
    | bool => exact gen rfl hs
    | str => exact gen rfl hs
    | fn _ _ => exact gen rfl hs
 ·rename_i i t0 q t f hx
  rw [hx] at hrep
  cases hs
  obtain ⟨_,L,cs,h1,h2,h3,h4⟩:=hrep
  exact h.plain hc (ho _ rfl) rfl ⟨rfl,L,cs,h1,h2,h3,h4⟩
 ·rename_i i t0 q t f hx
  rw [hx] at hrep
  cases hs
  obtain ⟨_,b,off,h1,h2⟩:=hrep
  exact h.plain hc (ho _ rfl) rfl ⟨rfl,b,off,h1,h2⟩
 ·rename_i i t0 q t f hx
  rw [hx] at hrep
  cases hs
  obtain ⟨_,L,cs,b,off,h1⟩:=hrep
  exact h.plain hc (ho _ rfl) rfl ⟨rfl,L,cs,b,off,h1⟩
 ·rename_i k t f hx
  rw [hx] at hrep
  cases hs
  exact h.plain hc (ho _ rfl) rfl ⟨rfl,hrep.2⟩
 ·cases hs
theorem Afj {Q:Exit -> Act -> World -> Prop} (h:Sim C fr a w P T) {o:Oper} {t:TypeId} {x:Operand} {j:Nat} (ho:o.op = .field t x j)
  {Tb:Tab} (hT:TabOk C.M Tb) (his:Tb.isV t (opx fr x).1 = true) {r:Res Unit} (hs:sFieldV fr x j (opx fr x) = some r) {pin:Nat -> Bool} {ds:List Nat} (hc:OpC C pin ds fr o.dst r) {z:r.X} (hz:r.run () = some z):Goal C fr a w o Q r z:=by
 have hopen:∀ (ts:List Ty) (τ:Ty) gs cs,TyOk C.M t (.st ts) -> fld ts j = some ⟨τ,gs⟩ -> a.eval x = .agg (List.toArray cs) -> cs.length = Ty.sizes ts -> (execOp a.eval o).run C.M w = .ok (.value (valOf τ ((cs.drop (offs ts j)).take τ.size))) w:=by
  intro ts τ gs cs hk hf hv hl
  have hk':=hk
  obtain ⟨fs,hu,_,_,_,hfs⟩:=hk'
  obtain ⟨f',dd,h1,_⟩:=hfs j τ (fld_get hf)
  have hp:=Zo (w:=w) hk (fld_get hf) hu h1 (cs:=cs) (by rw [hl]; exact fld_le hf)
  simp [execOp,ho,Instr.field,hv,run_underlying hu,h1,asAgg,hp]
 have hplace:∀ (p:Plc Unit) (ts:List Ty) (τ:Ty) gs,vluOf x (opx fr x) = some p -> p.t = .st ts -> fld ts j = some ⟨τ,gs⟩ -> (opx fr x).1.tyV = some (.st ts) -> atPlace fr ⟨p.i,p.t0,p.q ++ [.fld j],τ,p.is⟩ = some r -> Goal C fr a w o Q r z:=by
  intro p ts τ gs hp ht hf hty hs
  have hk:=(Tab.of_isV hT his hty).kind
  have hlk:∃ k,look fr ⟨p.i,p.t0,p.q ++ [.fld j],τ,p.is⟩ = some k:=by
   unfold atPlace at hs
   split at hs
   ·rename_i k hk; exact ⟨k,hk⟩
   ·cases hs
  obtain ⟨k,hk1⟩:=hlk
  obtain ⟨m,f,get,set,_,hroot,hsub,hown,hcell⟩:=look_eq hk1
  obtain ⟨L,cs,h1,h2,h3,h4⟩:=vlu_rep h hp hroot hcell
  rw [ht] at h1 h2 h4
  refine Q7 h (p:=⟨p.i,p.t0,p.q ++ [.fld j],τ,p.is⟩) (L:=L.sub (offs ts j) τ.size) (Ma p.q h2 hf) (fun y cs' _ hL hl => ?_) hs hc hz
  have hl':cs.length = Ty.sizes ts:=h4
  have:=Loc.is_unique hL (Loc.is_sub h3 (offs ts j) τ.size) (by
   have:=fld_le hf
   have hl:cs'.length = τ.size:=hl
   rw [hl]
   simp
   omega)
  rw [this]
  exact hopen ts τ gs cs hk hf h1 hl'
 unfold sFieldV at hs
 split at hs
 ·rename_i ts m f hx
  rw [hx] at his
  split at hs
  ·rename_i hfz
   split at hs
   ·rename_i τ get set hf
    have hk:=(Tab.of_isV hT his rfl).kind
    have hr:=opx_val h hx hfz
    simp only [RepV] at hr
    obtain ⟨cs,hv,hr⟩:=hr
    obtain ⟨k1,k2⟩:=RepCs.part hf hr
    exact h.plain1 (t:=τ) hs hc (hopen ts τ _ cs hk hf hv (RepCs.length _ hr).1) (Bh τ k1)
   ·cases hs
  ·split at hs
   ·rename_i i τ get set hi hf
    rw [<- hx] at his
    exact hplace ⟨i,.st ts,[],.st ts,fun _ => []⟩ ts τ _ (by rw [hx]; simp only [vluOf,hi]) rfl hf (by rw [hx]; rfl) hs
   ·cases hs
 ·rename_i i t0 q ts f hx
  split at hs
  ·rename_i τ get set hf
   exact hplace ⟨i,t0,q,.st ts,f⟩ ts τ _ (by rw [hx]; rfl) rfl hf (by rw [hx]; rfl) hs
  ·cases hs
 ·cases hs
theorem RepL.get {α:Type} {R:α -> List Value -> List Nat -> Prop} {size:Nat} (hsize:∀ x cs T,R x cs T -> cs.length = size) {xs:List α} {cells:List Value} (hr:RepL R xs cells []) {i:Nat} {x:α} (hx:xs[i]? = some x) :
  R x ((cells.drop (i * size)).take size) [] /\ i * size + size <= cells.length:=by
 obtain ⟨c1,c2,c3,T1,T2,T3,rfl,hT,k1,k2,_⟩:=RepL.splitW hsize hr hx
 have hT2:T2 = []:=by
  have:=List.append_eq_nil_iff.1 hT.symm
  exact (List.append_eq_nil_iff.1 this.2).1
 subst hT2
 have hl:=hsize _ _ _ k2
 refine ⟨?_,by simp only [List.length_append]; omega⟩
 rw [<- k1,List.drop_left,<- hl,List.take_left]
 exact k2
theorem vlu_tyV {S:Type} {x:Operand} {ex:Ex S} {p:Plc S} (hp:vluOf x ex = some p):ex.1.tyV = some p.t \/ (∃ t',p.t = .ptr t'):=by
 obtain ⟨e,f⟩:=ex
 cases e
 case non => cases hp
 case kb => cases hp
 case und => cases hp
 case pa => cases hp
 case pb => cases hp
 case val t m =>
  simp only [vluOf] at hp
  split at hp
  ·cases hp; exact .inl rfl
  ·cases hp
 case av i t0 q t => cases hp; exact .inl rfl
 case pl i t0 q t =>
  cases t0 <;> try (simp [vluOf] at hp; done)
  rename_i t'
  rcases q with _ | ⟨s,_ | ⟨s',q'⟩⟩
  ·simp [vluOf] at hp
  ·cases s <;> try (simp [vluOf] at hp; done)
   simp only [vluOf,Option.some.injEq] at hp
   subst hp
   exact .inr ⟨_,rfl⟩
  ·cases s <;> simp [vluOf] at hp
theorem Abe {Q:Exit -> Act -> World -> Prop} (h:Sim C fr a w P T) {o:Oper} {t:TypeId} {x i:Operand} (ho:o.op = .indexAddr t x i)
  {Tb:Tab} (hT:TabOk C.M Tb) (his:Tb.isV t (opx fr x).1 = true) {r:Res Unit} (hs:Mc fr x (opx fr x) (opx fr i) = some r) {pin:Nat -> Bool} {ds:List Nat} (hc:OpC C pin ds fr o.dst r) {z:r.X} (hz:r.run () = some z):Goal C fr a w o Q r z:=by
 have hopen:∀ (e:TypeId) (τ:Ty) (b off n cap:Nat) (k:IntKind) (j:Int),TyOk C.M t (.sl e τ) -> a.eval x = .slice (some ⟨b,off,none⟩) n cap -> a.eval i = .int k j -> 0 <= j -> j < n ->
   (execOp a.eval o).run C.M w = .ok (.value (.pointer (some ⟨b,off + j.toNat * τ.size,none⟩))) w:=by
  intro e τ b off n cap k j hk h1 hi h0 hn
  obtain ⟨hu,inf,zz,hinf,_,hsz,_,_,_⟩:=hk
  have hin:0 <= j /\ j < (n:Int):=⟨h0,hn⟩
  simp [execOp,ho,Instr.indexAt,hi,h1,asIntOf,run_underlying hu,hin,sizeOf,typeInfo,hinf,hsz,Addr.add_mk]
 unfold Mc at hs
 split at hs
 ·rename_i k m g hi
  have hi':=opx_int h hi
  split at hs
  ·rename_i e τ f hx
   cases hs
   rw [hx] at his
   have hk:=(Tab.of_isV hT his rfl).kind
   have hr:=opx_val h hx rfl
   simp only [RepV] at hr
   obtain ⟨i0,iz,ilt⟩:=Sk hz
   obtain ⟨_,hr⟩:=hr
   rcases hr with ⟨h1,_⟩ | ⟨b,off,cap,cells,h1,h2,h3,h4,h5⟩
   ·rw [show (show List τ.den from f ()) = [] from h1] at iz; simp at iz
   ·obtain ⟨k1,k2⟩:=RepL.get (size:=τ.size) (fun x cs T hr => (RepC.length τ hr).1) h3 iz
    refine h.plain hc (hopen e τ b off _ cap k _ hk h1 hi' i0 ilt) rfl ?_
    simp only [RepE,RepV]
    refine ⟨rfl,b,_,_,rfl,k1,fun q v hq => ?_⟩
    rw [List.getElem?_take] at hq
    split at hq
    ·rw [List.getElem?_drop] at hq
     have:=h5 _ v hq
     rwa [<- Nat.add_assoc] at this
    ·cases hq
  ·split at hs
   ·rename_i j t0 q e τ is hp
    have hty:(opx fr x).1.tyV = some (.sl e τ):=by
     rcases vlu_tyV hp with h | ⟨t',h⟩
     ·exact h
     ·cases h
    have hk:=(Tab.of_isV hT his hty).kind
    split at hs
    ·rename_i kk hkk
     obtain ⟨m',f,get,set,rfl,hroot,hsub,hown,hcell⟩:=look_eq hkk
     split at hs
     ·rename_i hown2
      cases hs
      obtain ⟨L,cs,h1,h2,h3,h4⟩:=vlu_rep h hp hroot hcell
      simp only at hz
      cases hcon:get (f ()) (is ()) with
      | none =>
       have hz:(Lk.content (Lk.mk j t0 m' q f is get set) ()).bind _ = some z:=hz
       rw [show Lk.content (Lk.mk j t0 m' q f is get set) () = none from hcon] at hz
       cases hz
      | some l =>
       have hz:(Lk.content (Lk.mk j t0 m' q f is get set) ()).bind _ = some z:=hz
       rw [show Lk.content (Lk.mk j t0 m' q f is get set) () = some l from hcon] at hz
       obtain ⟨hin,cs',T1,T',T2,at_,hv,F,rfl,hLi⟩:=h.focus hroot hsub hown hcell hcon h2
       have hrc:=F.rep
       have hcc:cs' = cs:=Loc.is_unique hLi h3 (by rw [(RepC.length _ hrc).1,h4])
       subst hcc
       have hz:(getI (show List τ.den from l) (g ())).bind _ = some z:=hz
       cases hgi:getI (show List τ.den from l) (g ()) with
       | none => rw [hgi] at hz; cases hz
       | some y =>
        obtain ⟨i0,iz,ilt⟩:=Sk hgi
        have hmu:∃ c,m'.at q = .u c:=by
         have:∀ (q:List PStep) (m:Md),m.own (q ++ [.idx]) = true -> ∃ c,m.at q = .u c:=by
          intro q
          induction q with
          | nil => intro m h; cases m <;> simp_all [Md.own,Md.at]
          | cons s q ih =>
           intro m h
           cases s with
           | fld n => simp only [List.cons_append,Md.own] at h; simpa [Md.at] using ih _ h
           | idx => cases m <;> simp only [List.cons_append,Md.own,Bool.false_eq_true] at h; simpa [Md.at,Md.child] using ih _ h
           | drf => cases m <;> simp only [List.cons_append,Md.own,Bool.false_eq_true] at h; simpa [Md.at,Md.child] using ih _ h
         exact this q m' hown2
        obtain ⟨c,hmc⟩:=hmu
        rw [hmc] at hrc
        simp only [RepC] at hrc
        obtain ⟨v,rfl,hrc⟩:=hrc
        rcases hrc with ⟨h1',_⟩ | ⟨b,cap,cells,Tc,rfl,k2,k3,k4,k5,k6,k7,rfl,k9⟩
        ·rw [show (show List τ.den from l) = [] from h1'] at iz; simp at iz
        ·have hb:b ∈ T j:=by rw [F.split]; simp
         have hhead:(at_ (.vals (C.at a w j).cells.toList)).head w = some (.slice (some ⟨b,0,none⟩) (List.length (show List τ.den from l)) cap):=by
          generalize at_ (.vals (C.at a w j).cells.toList) = L at hLi
          cases L with
          | vals l' => have hL:l' = _:=hLi; subst hL; rfl
          | mem b' off => exact hLi 0 _ rfl
         have hres:=Om (w:=w) (U:=T j) hb ⟨i0,ilt⟩ q h2 hhead
         refine h.plain hc (hopen e τ b 0 _ cap k _ hk h1 hi' i0 ilt) rfl ?_
         exact ⟨rfl,b,0 + (g ()).toNat * τ.size,rfl,by rw [Nat.zero_add]; exact hres⟩
     ·cases hs
    ·cases hs
   ·cases hs
 ·cases hs
theorem nh_len {M:Program} {w:World} {P:Prot} {e:TypeId} {t:Ty} {m:Md} {x:List t.den} {v:Value} {T:List Nat} (h:RepV M (.sl e t) w P m x v T) (hn:(Ty.sl e t).nh m = true):∃ ad cap,v = .slice ad x.length cap:=by
 simp only [RepV] at h
 cases m with
 | h => simp [Ty.nh] at hn
 | p =>
  rcases h with ⟨_,⟨h1,ad,h3⟩ | ⟨b,off,cap,cells,h1,_⟩⟩
  ·exact ⟨ad,0,by rw [h3,h1]; rfl⟩
  ·exact ⟨_,cap,h1⟩
 | s _ _ =>
  rcases h with ⟨_,⟨h1,ad,h3⟩ | ⟨b,off,cap,cells,h1,_⟩⟩
  ·exact ⟨ad,0,by rw [h3,h1]; rfl⟩
  ·exact ⟨_,cap,h1⟩
 | u c =>
  rcases h with ⟨h1,_,h3⟩ | ⟨b,cap,cells,Tc,h1,_⟩
  ·exact ⟨none,0,by rw [h3,h1]; rfl⟩
  ·exact ⟨_,cap,h1⟩
theorem op_len {Q:Exit -> Act -> World -> Prop} (h:Sim C fr a w P T) {o:Oper} {c:Call} (ho:o.op = .call c) {x:Operand} {t:TypeId} (hcc:c.callee = .builtin .len)
  (hargs:c.args.toList = [x]) (htys:c.argTypes.toList = [t]) {Tb:Tab} (hT:TabOk C.M Tb) (his:Tb.isV t (opx fr x).1 = true) {r:Res Unit} (hs:sLen fr x (opx fr x) = some r) {pin:Nat -> Bool} {ds:List Nat} (hc:OpC C pin ds fr o.dst r) {z:r.X} (hz:r.run () = some z):Goal C fr a w o Q r z:=by
 have ha:c.args = #[x]:=by rw [<- Array.toArray_toList (xs:=c.args),hargs]
 have hty:c.argTypes = #[t]:=by rw [<- Array.toArray_toList (xs:=c.argTypes),htys]
 have hopen:∀ v,a.eval x = v -> (execOp a.eval o).run C.M w = ((Builtin.len_ #[t] o.type #[v]).run C.M w).andThen fun v w' => .ok (.value v) w':=by
  intro v hv
  simp [execOp,ho,resolve,hcc,invoke,builtin,ha,hty,hv]
 have hsl:∀ (e:TypeId) (τ:Ty) n ad cap,TyOk C.M t (.sl e τ) -> a.eval x = .slice ad n cap -> (execOp a.eval o).run C.M w = .ok (.value (.int .i64 (n:Int))) w:=by
  intro e τ n ad cap hk hv
  rw [hopen _ hv]
  simp [Builtin.len_,run_underlying hk.1,goInt]
 unfold sLen at hs
 split at hs
 ·rename_i m f heq
  have hr:=opx_str h heq
  rw [heq] at his
  have hu:C.M.underlying t = some .string:=(Tab.of_isV hT his rfl).kind
  refine h.plain1 (t:=.int .i64) hs hc (v:=.int .i64 ((f ()).length:Int)) ?_ (by simp [RepV,lenI])
  rw [hopen _ hr]
  simp [Builtin.len_,run_underlying hu,goInt]
  exact congrArg (fun q:Nat => (q:Int)) (Pb _)
 ·rename_i e τ m f heq
  rw [heq] at his
  have hk:=(Tab.of_isV hT his rfl).kind
  split at hs
  ·rename_i hnh
   obtain ⟨Tx,hr,_⟩:=opx_rep h x
   rw [heq] at hr
   obtain ⟨ad,cap,hv⟩:=nh_len hr hnh
   exact h.plain1 (t:=.int .i64) hs hc (hsl e τ _ ad cap hk hv) (by simp [RepV,lenI])
  ·cases hs
 ·split at hs
  ·rename_i j t0 q e τ is hp
   have hty:(opx fr x).1.tyV = some (.sl e τ):=by
    rcases vlu_tyV hp with h | ⟨t',h⟩
    ·exact h
    ·cases h
   have hk:=(Tab.of_isV hT his hty).kind
   split at hs
   ·rename_i kk hkk
    obtain ⟨m',f,get,set,rfl,hroot,hsub,hown,hcell⟩:=look_eq hkk
    split at hs
    ·rename_i hnh
     cases hs
     obtain ⟨L,cs,h1,h2,h3,h4⟩:=vlu_rep h hp hroot hcell
     obtain ⟨hin,cs',T1,T',T2,at_,hv,F,rfl,hLi⟩:=h.focus hroot hsub hown hcell hz h2
     have hrc:=F.rep
     have hcc:cs' = cs:=Loc.is_unique hLi h3 (by rw [(RepC.length _ hrc).1,h4])
     subst hcc
     obtain ⟨ad,cap,hv⟩:=nh_len (Bh _ hrc) hnh
     exact h.plain hc (hsl e τ _ ad cap hk (h1.trans hv)) rfl (by simp [RepE,RepV,lenI])
    ·cases hs
   ·cases hs
  ·cases hs
end
end Go.Abs
