/-
  The meta layer, part 11: parts of slices; append.
-/
import Derived.Test.YtbkefganebmlnaaGreatDoorN10
namespace Go.Abs
open Go.RowKit
set_option linter.unusedVariables false
set_option linter.unusedSimpArgs false
theorem RepL.splitAt {α:Type} {R:α -> List Value -> List Nat -> Prop} {size:Nat} (hsize:∀ x cs T,R x cs T -> cs.length = size):∀ (n:Nat) {xs:List α} {cs:List Value} {T:List Nat},RepL R xs cs T -> n <= xs.length ->
  ∃ c1 c2 T1 T2,cs = c1 ++ c2 /\ T = T1 ++ T2 /\ c1.length = n * size /\ RepL R (xs.take n) c1 T1 /\ RepL R (xs.drop n) c2 T2
 | 0,xs,cs,T,h,_ => ⟨[],cs,[],T,rfl,rfl,by simp,⟨rfl,rfl⟩,h⟩
 | n + 1,[],_,_,h,hn => by simp at hn
 | n + 1,x :: xs,_,_,⟨c1,c2,T1,T2,rfl,rfl,h1,h2⟩,hn => by
  obtain ⟨d1,d2,U1,U2,rfl,rfl,k1,k2,k3⟩:=RepL.splitAt hsize n h2 (by simpa using hn)
  exact ⟨c1 ++ d1,d2,T1 ++ U1,U2,by simp,by simp,by rw [List.length_append,hsize _ _ _ h1,k1,Nat.add_mul]; omega,⟨c1,d1,T1,U1,rfl,rfl,h1,k2⟩,k3⟩
theorem RepL.join {α:Type} {R:α -> List Value -> List Nat -> Prop}:∀ {xs ys:List α} {c1 c2:List Value} {T1 T2:List Nat},RepL R xs c1 T1 -> RepL R ys c2 T2 -> RepL R (xs ++ ys) (c1 ++ c2) (T1 ++ T2)
 | [],ys,_,c2,_,T2,h1,h2 => by rw [h1.1,h1.2]; exact h2
 | x :: xs,ys,_,c2,_,T2,⟨d1,d2,U1,U2,rfl,rfl,k1,k2⟩,h2 => ⟨d1,d2 ++ c2,U1,U2 ++ T2,by simp,by simp,k1,RepL.join k2 h2⟩
theorem V8 {α:Type} {l:List α} {lo hi:Int} {r:List α} (h:cutI l lo hi = some r):∃ a b:Nat,lo = a /\ hi = b /\ a <= b /\ b <= l.length /\ r = (l.take b).drop a:=by
 unfold cutI at h
 split at h
 ·rename_i hc
  obtain ⟨h1,h2,h3⟩:=hc
  cases h
  exact ⟨lo.toNat,hi.toNat,by omega,by omega,by omega,by omega,rfl⟩
 ·cases h
section
variable {C:Cx} {fr:Fr} {a:Act} {w:World} {P:Prot} {T:Nat -> List Nat}
def BoundIs (v:Option Value) (dflt n:Nat):Prop:=(v = none /\ n = dflt) \/ ∃ k,v = some (.int k (n:Int))
theorem O8 {M:Program} {w:World} (isS:Bool) {len cap A B:Nat} {lo hi:Option Value} (hlo:BoundIs lo 0 A) (hhi:BoundIs hi len B) (hAB:A <= B) (hB:B <= cap) (hl:len <= cap) :
  (Instr.sliceBounds isS len cap lo hi none).run M w = .ok (A,B,cap) w:=by
 rcases hhi with ⟨rfl,rfl⟩ | ⟨k,rfl⟩
 ·rcases hlo with ⟨rfl,rfl⟩ | ⟨k',rfl⟩
  ·simp [Instr.sliceBounds]
  ·simp [Instr.sliceBounds,run_sliceBound w k' (A:Int) B .sliceB (by omega) (by omega)]
 ·rcases hlo with ⟨rfl,rfl⟩ | ⟨k',rfl⟩
  ·cases isS <;> simp [Instr.sliceBounds,run_sliceBound w k (B:Int) cap _ (by omega) (by omega)]
  ·cases isS <;> simp [Instr.sliceBounds,run_sliceBound w k (B:Int) cap _ (by omega) (by omega),run_sliceBound w k' (A:Int) B .sliceB (by omega) (by omega)]
theorem Yh (h:Sim C fr a w P T) {x:Option Operand} {f:Option (Unit -> Int)} (hx:optInt fr x = some f):(f = none -> x = none) /\ ∀ g,f = some g -> ∃ k,x.map a.eval = some (.int k (g ())):=by
 cases x with
 | none =>
  simp only [optInt,Option.some.injEq] at hx
  subst hx
  exact ⟨fun _ => rfl,fun g hg => by cases hg⟩
 | some o =>
  simp only [optInt] at hx
  split at hx
  ·rename_i k m f heq
   simp only [Option.some.injEq] at hx
   subst hx
   refine ⟨fun hn => (by cases hn),fun g hg => ?_⟩
   cases hg
   exact ⟨k,by rw [Option.map_some,opx_int h heq]⟩
  ·cases hx
theorem slice_p {M:Program} {w:World} {P:Prot} {t e:TypeId} {τ:Ty} (hk:TyOk M t (.sl e τ)) {x:List τ.den} {v:Value} (hr:RepV M (.sl e τ) w P .p x v []) {A B:Nat} (h3:A <= B) (h4:B <= x.length)
  {lo hi:Option Value} (b1:BoundIs lo 0 A) (b2:BoundIs hi x.length B):∃ u,(Instr.sliceAt t v lo hi none).run M w = .ok u w /\ RepV M (.sl e τ) w P .p ((x.take B).drop A) u []:=by
 obtain ⟨hu,i,zz,hi',hzi,hsz,hzs,hpos,hby,hzv,hel⟩:=hk
 simp only [RepV] at hr
 obtain ⟨_,⟨rfl,ad,rfl⟩ | ⟨b,off,cap,cells,rfl,hcap,hrl,hcl,hca⟩⟩:=hr
 ·have hB:B = 0:=by simpa using h4
  subst hB
  have hA:A = 0:=by omega
  subst hA
  have hrb:=O8 (M:=M) (w:=w) true (len:=0) (cap:=0) b1 b2 (by omega) (by omega) (by omega)
  refine ⟨.slice ad 0 0,?_,?_⟩
  ·simp only [Instr.sliceAt,Sem.run_bind,run_underlying hu,Result.andThen_ok,Instr.slice,hrb,sizeOf,typeInfo,hi',run_program,Sem.run_pure]
   simp
  ·simp only [RepV]
   exact ⟨rfl,.inl ⟨by simp,ad,rfl⟩⟩
 ·have hrb:=O8 (M:=M) (w:=w) true (cap:=cap) b1 b2 h3 (by omega) hcap
  have hhd:∀ u,(if cap = A then some (⟨b,off,none⟩:Addr) else (some ⟨b,off,none⟩:Option Addr).map (·.add (A * τ.size))) = u ->
    (Instr.sliceAt t (.slice (some ⟨b,off,none⟩) x.length cap) lo hi none).run M w = .ok (.slice u (B - A) (cap - A)) w:=by
   intro u hu'
   subst hu'
   simp only [Instr.sliceAt,Sem.run_bind,run_underlying hu,Result.andThen_ok,Instr.slice,hrb,sizeOf,typeInfo,hi',run_program,Sem.run_pure,hsz]
  obtain ⟨c1,c2,T1,T2,rfl,hT',k1,k2,k3⟩:=RepL.splitAt (size:=τ.size) (fun x cs T r => (RepC.length τ r).1) B hrl h4
  obtain ⟨rfl,rfl⟩:=List.append_eq_nil_iff.1 hT'.symm
  have hBl:(x.take B).length = B:=by rw [List.length_take]; omega
  obtain ⟨d1,d2,U1,U2,rfl,hU',j1,j2,j3⟩:=RepL.splitAt (size:=τ.size) (fun x cs T r => (RepC.length τ r).1) A k2 (by rw [hBl]; exact h3)
  obtain ⟨rfl,rfl⟩:=List.append_eq_nil_iff.1 hU'.symm
  have hlen:((x.take B).drop A).length = B - A:=by simp; omega
  by_cases hcA:cap = A
  ·refine ⟨_,hhd _ (if_pos hcA),?_⟩
   simp only [RepV]
   have hBA:B - A = 0:=by omega
   exact ⟨rfl,.inl ⟨List.eq_nil_of_length_eq_zero (by rw [hlen]; exact hBA),some ⟨b,off,none⟩,by rw [hBA,show cap - A = 0 by omega]⟩⟩
  ·refine ⟨_,hhd (some ⟨b,off + A * τ.size,none⟩) (by rw [if_neg hcA,Option.map_some,Addr.add_mk]),?_⟩
   simp only [RepV]
   refine ⟨rfl,.inr ⟨b,off + A * τ.size,cap - A,d2,by rw [hlen],by rw [hlen]; omega,j3,?_,fun j v hj => ?_⟩⟩
   ·rw [hlen,Nat.sub_mul]
    have:=k1
    rw [List.length_append,j1] at this
    omega
   ·have:=hca (A * τ.size + j) v (by
     rw [List.append_assoc,List.getElem?_append_right (by omega),j1,show A * τ.size + j - A * τ.size = j by omega,List.getElem?_append_left (List.getElem?_eq_some_iff.1 hj).1]
     exact hj)
    rwa [<- Nat.add_assoc] at this
theorem slice_u {M:Program} {w:World} {P:Prot} {t e:TypeId} {τ:Ty} {c:Md} (hk:TyOk M t (.sl e τ)) {x:List τ.den} {v:Value} {T:List Nat} (hr:RepV M (.sl e τ) w P (.u c) x v T) {B:Nat} (h4:B <= x.length)
  {lo hi:Option Value} (b1:BoundIs lo 0 0) (b2:BoundIs hi x.length B):∃ u T',(Instr.sliceAt t v lo hi none).run M w = .ok u w /\ RepV M (.sl e τ) w P (.u c) (x.take B) u T' /\ List.Sublist T' T:=by
 obtain ⟨hu,i,zz,hi',hzi,hsz,hzs,hpos,hby,hzv,hel⟩:=hk
 simp only [RepV] at hr
 rcases hr with ⟨rfl,rfl,rfl⟩ | ⟨b,cap,cells,Tc,rfl,hcap,hmx,hrow,hrl,hcl,hin,rfl,hfree⟩
 ·have hB:B = 0:=by simpa using h4
  subst hB
  have hrb:=O8 (M:=M) (w:=w) true (len:=0) (cap:=0) b1 b2 (by omega) (by omega) (by omega)
  refine ⟨.slice none 0 0,[],?_,?_,List.nil_sublist _⟩
  ·simp only [Instr.sliceAt,Sem.run_bind,run_underlying hu,Result.andThen_ok,Instr.slice,hrb,sizeOf,typeInfo,hi',run_program,Sem.run_pure]
   simp
  ·simp only [RepV]
   exact .inl ⟨by simp,rfl,rfl⟩
 ·have hrb:=O8 (M:=M) (w:=w) true (cap:=cap) b1 b2 (by omega) (by omega) hcap
  obtain ⟨c1,c2,T1,T2,rfl,rfl,k1,k2,k3⟩:=RepL.splitAt (size:=τ.size) (fun x cs T r => (RepC.length τ r).1) B hrl h4
  have hlen:(x.take B).length = B:=by rw [List.length_take]; omega
  refine ⟨.slice (some ⟨b,0,none⟩) B cap,b :: T1,?_,?_,List.Sublist.cons_cons b (List.sublist_append_left T1 T2)⟩
  ·simp only [Instr.sliceAt,Sem.run_bind,run_underlying hu,Result.andThen_ok,Instr.slice,hrb,sizeOf,typeInfo,hi',run_program,Sem.run_pure,hsz]
   simp [Addr.add_mk]
  ·simp only [RepV]
   refine .inr ⟨b,cap,c1,T1,by rw [hlen],by rw [hlen]; omega,hmx,hrow,k2,by rw [hlen]; exact k1,fun j v hj => ?_,rfl,hfree⟩
   exact hin j v (by rw [List.getElem?_append_left (List.getElem?_eq_some_iff.1 hj).1]; exact hj)
theorem slice_s {M:Program} {w:World} {t:TypeId} (hu:M.underlying t = some .string) {x:List UInt8} {A B:Nat} (h3:A <= B) (h4:B <= x.length)
  {lo hi:Option Value} (b1:BoundIs lo 0 A) (b2:BoundIs hi x.length B):(Instr.sliceAt t (.string ⟨List.toArray x⟩) lo hi none).run M w = .ok (.string ⟨List.toArray ((x.take B).drop A)⟩) w:=by
 have hrb:=O8 (M:=M) (w:=w) false b1 b2 h3 h4 (Nat.le_refl _)
 have hsz:=Pb x
 have hex:(⟨List.toArray x⟩:ByteArray).extract A B = ⟨List.toArray ((x.take B).drop A)⟩:=by
  apply ByteArray.ext
  simp [List.extract_eq_take_drop,List.drop_take]
 simp only [Instr.sliceAt,Sem.run_bind,run_underlying hu,Result.andThen_ok,Instr.slice,Option.isSome_none,Bool.false_eq_true,if_false,Sem.run_pure,hsz,hrb,hex]
theorem Adh {S:Type} {ds:List Nat} {pin:Nat -> Bool} {g:Nat -> Ex S} {o:Operand} {k:Tkn S} (h:take ds pin g o = some k):(opx g o).1.tyV = some k.t:=by
 unfold take at h
 split at h
 ·rename_i t' m' f' hx
  rw [hx]
  split at h
  ·cases h; rfl
  ·split at h
   ·split at h
    ·cases h
    ·cases h; rfl
   ·cases h
 ·rename_i i' t0' q' t' f' hx
  rw [hx]
  split at h
  ·split at h
   ·cases h
   ·split at h
    ·cases h; rfl
    ·split at h
     ·cases h; rfl
     ·split at h
      ·cases h; rfl
      ·cases h
  ·cases h
 ·cases h
theorem Agy {Q:Exit -> Act -> World -> Prop} (h:Sim C fr a w P T) {o:Oper} {t:TypeId} {x:Operand} {lo hi:Option Operand} (ho:o.op = .slice t x lo hi none)
  {Tb:Tab} (hT:TabOk C.M Tb) (his:Tb.isV t (opx fr x).1 = true) {dl:List Nat} {r:Res Unit} (hs:sSlice dl Tb fr x lo hi = some r) {pin:Nat -> Bool} {ds:List Nat} (hc:OpC C pin ds fr o.dst r) {z:r.X} (hz:r.run () = some z):Goal C fr a w o Q r z:=by
 unfold sSlice at hs
 split at hs
 ·rename_i l hh hl hhi
  have hlr:=Yh h hl
  have hhr:=Yh h hhi
  have bnd:∀ (n A B:Nat),loI l () = (A:Int) -> hiI hh () (n:Int) = (B:Int) -> BoundIs (lo.map a.eval) 0 A /\ BoundIs (hi.map a.eval) n B:=by
   intro n A B h1 h2
   constructor
   ·cases l with
    | none => rw [hlr.1 rfl]; exact .inl ⟨rfl,by have:(0:Int) = A:=h1; omega⟩
    | some f => obtain ⟨k,hk⟩:=hlr.2 f rfl; exact .inr ⟨k,by rw [hk]; exact congrArg (fun q => some (Value.int k q)) h1⟩
   ·cases hh with
    | none => rw [hhr.1 rfl]; exact .inl ⟨rfl,by have:(n:Int) = B:=h2; omega⟩
    | some f => obtain ⟨k,hk⟩:=hhr.2 f rfl; exact .inr ⟨k,by rw [hk]; exact congrArg (fun q => some (Value.int k q)) h2⟩
  have hopen:∀ u,(Instr.sliceAt t (a.eval x) (lo.map a.eval) (hi.map a.eval) none).run C.M w = .ok u w -> (execOp a.eval o).run C.M w = .ok (.value u) w:=fun u hr => by
   simp only [execOp,ho,Sem.run_bind,Option.map_none,hr,Result.andThen_ok,Sem.run_pure]
  split at hs
  ·rename_i m f hx
   have hv:=opx_str h hx
   rw [hx] at his
   have hu:C.M.underlying t = some .string:=(Tab.of_isV hT his rfl).kind
   refine h.plain2 (t:=.str) hs hc hz fun y hy => ?_
   obtain ⟨A,B,h1,h2,h3,h4,rfl⟩:=V8 hy
   obtain ⟨b1,b2⟩:=bnd (show List UInt8 from f ()).length A B h1 h2
   exact ⟨_,hopen _ (by rw [hv]; exact slice_s hu h3 h4 b1 b2),by simp only [RepV]; exact ⟨trivial,trivial⟩⟩
  ·rename_i e τ f hx
   have hr:=opx_val h hx rfl
   rw [hx] at his
   have hk:=(Tab.of_isV hT his rfl).kind
   refine h.plain2 (t:=.sl e τ) hs hc hz fun y hy => ?_
   obtain ⟨A,B,h1,h2,h3,h4,rfl⟩:=V8 hy
   obtain ⟨b1,b2⟩:=bnd (show List τ.den from f ()).length A B h1 h2
   obtain ⟨u,k1,k2⟩:=slice_p hk hr h3 h4 b1 b2
   exact ⟨u,hopen u k1,k2⟩
  ·split at hs
   ·rename_i k
    split at hs
    ·rename_i e τ c fx ux hk
     cases hs
     have hlo:lo = none:=hlr.1 rfl
     obtain ⟨kk,hkk⟩:=hhr.2 _ rfl
     have hz:(fx ()).bind (fun l => cutI (show List τ.den from l) 0 (k ())) = some z:=hz
     cases hfx:fx () with
     | none => rw [hfx] at hz; cases hz
     | some l =>
      rw [hfx] at hz
      have hz:cutI (show List τ.den from l) 0 (k ()) = some z:=hz
      obtain ⟨A,B,h1,h2,h3,h4,rfl⟩:=V8 hz
      have hA:A = 0:=by omega
      subst hA
      obtain ⟨Tx,Tn,tk⟩:=take_ok h hk hfx
      have hty:=(Tab.of_isV hT his (Adh hk)).kind
      obtain ⟨u,T',r1,r2,r3⟩:=slice_u hty tk.rep h4 (lo:=lo.map a.eval) (hi:=hi.map a.eval) (.inl ⟨by rw [hlo]; rfl,rfl⟩) (.inr ⟨kk,by rw [hkk,h2]⟩)
      obtain ⟨Tn',hd⟩:=h.give hc rfl tk.u (v:=u) (y:=((show List τ.den from l).take B).drop 0) (Td:=T') h.pext (Nat.le_refl _) (fun S _ => Keeps.refl w P S) (fun _ _ => r2) (tk.nodup.sublist r3) (fun q hq => .inl (r3.subset hq))
      exact Jh (hopen u r1) (h.did hc hd)
    ·cases hs
   ·cases hs
 ·cases hs
end
end Go.Abs
