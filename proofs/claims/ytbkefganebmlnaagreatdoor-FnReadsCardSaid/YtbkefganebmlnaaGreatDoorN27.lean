/-
  The meta layer, part 27: from a law's function, read ahead, to the row: arguments that are read as data stand for plain data; they read behind the call as before.
-/
import Derived.Test.YtbkefganebmlnaaGreatDoorN26
import Derived.OpenShut
import Derived.Carry
import Derived.WideShapes
import Derived.ChangeCalls
namespace Go.Abs
open Go.RowKit Go.ChangeShapes Go.WideShapes
set_option linter.unusedVariables false
set_option linter.unusedSimpArgs false
mutual
def tyAt (M:Program):Ty -> TypeId -> Bool
 | .int k,t => (match M.underlying t with | some (.int k') => decide (k' = k) | _ => false)
 | .bool,t => (match M.underlying t with | some .bool => true | _ => false)
 | .str,t => (match M.underlying t with | some .string => true | _ => false)
 | .sl e τ,t => (match M.underlying t with | some (.slice e') => decide (e' = e) | _ => false) && decide (M.cellsOf e = τ.size) && decide (0 < τ.size) && tyAt M τ e
 | .st ts,t => (match M.underlying t with | some (.struct fs) => decide (M.cellsOf t = Ty.sizes ts) && tyAts M ts fs.toList 0 | _ => false)
 | _,_ => false
def tyAts (M:Program):List Ty -> List Field -> Nat -> Bool
 | [],[],_ => true
 | τ :: ts,f :: fs,off => decide (f.offset = off) && decide (M.cellsOf f.type = τ.size) && tyAt M τ f.type && tyAts M ts fs (off + τ.size)
 | _,_,_ => false
end
mutual
def Ty.fit:(t:Ty) -> t.den -> Prop
 | .int k,x => (Lit.int k x).wf = true
 | .str,x => List.length (show List UInt8 from x) <= maxLen
 | .sl _ t,x => List.length (show List t.den from x) <= maxLen /\ ∀ y ∈ (show List t.den from x),Ty.fit t y
 | .st ts,x => Ty.fits ts x
 | .bool,_ => True
 | .fn _ _,_ => True
 | .tup _,_ => True
 | .ptr _,_ => True
def Ty.fits:(ts:List Ty) -> Ty.dens ts -> Prop
 | [],_ => True
 | t :: ts,x => Ty.fit t x.1 /\ Ty.fits ts x.2
end
def AllP (w:World):Prot:=fun b o => ∃ v,w.cell? ⟨b,o,none⟩ = some v
theorem AllP.there (w:World):There w (AllP w):=fun _ _ h => h
section
variable {H:Type} {enc:TypeId × Value -> H} {M:Program} {w:World}
theorem Ah1 {b off n:Nat} {cs:List Value} (h:w.cells? 0 ⟨b,off,none⟩ n = some cs):cs.length = n /\ ∀ (j:Nat) (v:Value),cs[j]? = some v -> w.cell? ⟨b,off + j,none⟩ = some v:=by
 obtain ⟨_,hl,hc⟩:=World.cells?_some h
 refine ⟨hl,fun j v hj => ?_⟩
 have hjl:j < cs.length:=(List.getElem?_eq_some_iff.1 hj).1
 have:=hc j (by omega)
 rw [hj,Addr.add_mk] at this
 exact this
theorem X1 {τ:Ty} {R:τ.den -> List Value -> Prop} {b off:Nat} (Q:List Value -> τ.den -> Prop):∀ (n:Nat),(∀ i,i < n -> ∃ cs d,cs.length = τ.size /\ (∀ (j:Nat) (v:Value),cs[j]? = some v -> w.cell? ⟨b,off + i * τ.size + j,none⟩ = some v) /\ RepC M τ w (AllP w) .p d cs [] /\ Q cs d) ->
  ∃ (xs:List τ.den) (cells:List Value),xs.length = n /\ RepL (RepC M τ w (AllP w) .p) xs cells [] /\ cells.length = n * τ.size /\ (∀ (j:Nat) (v:Value),cells[j]? = some v -> w.cell? ⟨b,off + j,none⟩ = some v) /\ ∀ y ∈ xs,∃ cs,Q cs y
 | 0,_ => ⟨[],[],rfl,⟨rfl,rfl⟩,by simp,by simp,by simp⟩
 | n + 1,h => by
  obtain ⟨xs,cells,h1,h2,h3,h4,h5⟩:=X1 (R:=R) Q n fun i hi => h i (by omega)
  obtain ⟨cs,d,k1,k2,k3,k4⟩:=h n (by omega)
  refine ⟨xs ++ [d],cells ++ cs,by simp [h1],?_,?_,fun j v hj => ?_,fun y hy => ?_⟩
  ·have:RepL (RepC M τ w (AllP w) .p) [d] cs []:=⟨cs,[],[],[],by simp,rfl,k3,rfl,rfl⟩
   simpa using h2.join this
  ·rw [List.length_append,h3,k1,Nat.add_mul]; omega
  ·rcases Nat.lt_or_ge j cells.length with hlt | hge
   ·rw [List.getElem?_append_left hlt] at hj
    exact h4 j v hj
   ·rw [List.getElem?_append_right hge] at hj
    have:=k2 _ v hj
    rw [<- h3] at this
    have e:off + cells.length + (j - cells.length) = off + j:=by omega
    rw [e] at this
    exact this
  ·rcases List.mem_append.1 hy with hy | hy
   ·exact h5 y hy
   ·obtain rfl:=List.mem_singleton.1 hy
    exact ⟨cs,k4⟩
mutual
theorem V0:(ty:Ty) -> ∀ {t:TypeId},tyAt M ty t = true -> ∀ {fuel:Nat} {cs:List Value} {x:DataW H × List MemPlace},DataW.trod enc M w 0 (fun _ => true) true fuel t cs = some x ->
  ∃ d:ty.den,RepC M ty w (AllP w) .p d cs [] /\ ty.fit d
 | .int k,t,ht,fuel,cs,x,h => by
  simp only [tyAt] at ht
  split at ht
  ·rename_i k' hu
   have:=of_decide_eq_true ht
   subst this
   obtain ⟨n,rfl,_,hw⟩:=DataW.trod_int hu h
   exact ⟨n,by simp [RepC],hw⟩
  ·cases ht
 | .bool,t,ht,fuel,cs,x,h => by
  simp only [tyAt] at ht
  split at ht
  ·rename_i hu
   obtain ⟨n,rfl,_⟩:=DataW.trod_bool hu h
   exact ⟨n,by simp [RepC],trivial⟩
  ·cases ht
 | .str,t,ht,fuel,cs,x,h => by
  simp only [tyAt] at ht
  split at ht
  ·rename_i hu
   obtain ⟨s,rfl,_,hw⟩:=DataW.trod_string hu h
   exact ⟨s.data.toList,by simp [RepC],by
    show s.data.toList.length <= maxLen
    rw [Array.length_toList]
    exact hw⟩
  ·cases ht
 | .sl e τ,t,ht,fuel,cs,x,h => by
  simp only [tyAt,Bool.and_eq_true,decide_eq_true_eq] at ht
  obtain ⟨⟨⟨hu,hc⟩,hp⟩,hτ⟩:=ht
  split at hu
  ·rename_i e' hu'
   have:=of_decide_eq_true hu
   subst this
   rcases DataW.trod_slice hu' h with ⟨rfl,_⟩ | ⟨a,len,cap,elems,rest,n,_,rfl,_,hb,hl,hm,hlen,hel,hsp,_⟩
   ·refine ⟨([]:List τ.den),?_,?_⟩
    ·simp only [RepC]
     exact ⟨_,rfl,rfl,.inl ⟨rfl,none,rfl⟩⟩
    ·exact ⟨by simp,by simp⟩
   ·by_cases hcap:cap = 0
    ·subst hcap
     obtain rfl:len = 0:=by omega
     refine ⟨([]:List τ.den),?_,?_⟩
     ·simp only [RepC]
      exact ⟨_,rfl,rfl,.inl ⟨rfl,some a,rfl⟩⟩
     ·exact ⟨by simp,by simp⟩
    ·-- the address is plain
     have hplain:∃ b off,a = ⟨b,off,none⟩:=by
      obtain ⟨b,off,spot⟩:=a
      refine ⟨b,off,?_⟩
      have hone:∃ cs,w.cells? 0 (⟨b,off,spot⟩:Addr) (M.cellsOf e') = some cs:=by
       obtain ⟨hrl,hrest⟩:=hsp rfl
       by_cases h0:0 < len
       ·have:=hel 0 h0
        rw [Nat.zero_mul] at this
        have hx:∃ y,elems[0]? = some y:=⟨_,List.getElem?_eq_getElem (by omega)⟩
        obtain ⟨y,hy⟩:=hx
        rw [hy] at this
        obtain ⟨cs,h1,_⟩:=Option.bind_eq_some_iff.1 this
        exact ⟨cs,by simpa [Addr.add] using h1⟩
       ·have:=hrest 0 (by omega)
        have hx:∃ y,rest[0]? = some y:=⟨_,List.getElem?_eq_getElem (by omega)⟩
        obtain ⟨y,hy⟩:=hx
        rw [hy,show len + 0 = 0 by omega,Nat.zero_mul] at this
        obtain ⟨cs,h1,_⟩:=Option.bind_eq_some_iff.1 this
        exact ⟨cs,by simpa [Addr.add] using h1⟩
      obtain ⟨cs,hcs⟩:=hone
      obtain ⟨_,hl0,hc0⟩:=World.cells?_some hcs
      have:=hc0 0 (by omega)
      rw [List.getElem?_eq_getElem (by omega)] at this
      have hs:=World.cell?_spot this
      simp [Addr.add] at hs
      rw [hs]
     obtain ⟨b,off,rfl⟩:=hplain
     have hrows:=X1 (M:=M) (w:=w) (τ:=τ) (R:=fun _ _ => True) (b:=b) (off:=off) (fun _ d => τ.fit d) len fun i hi => by
      have:=hel i hi
      rw [hc,Addr.add_mk] at this
      have hx:∃ y,elems[i]? = some y:=⟨_,List.getElem?_eq_getElem (by omega)⟩
      obtain ⟨y,hy⟩:=hx
      rw [hy] at this
      obtain ⟨cs,h1,h2⟩:=Option.bind_eq_some_iff.1 this
      obtain ⟨d,k1,k2⟩:=V0 τ hτ h2
      obtain ⟨l1,l2⟩:=Ah1 h1
      exact ⟨cs,d,l1,l2,k1,k2⟩
     obtain ⟨xs,cells,h1,h2,h3,h4,h5⟩:=hrows
     refine ⟨(xs:List τ.den),?_,?_⟩
     ·simp only [RepC]
      refine ⟨_,rfl,rfl,.inr ⟨b,off,cap,cells,by rw [h1],by rw [h1]; exact hl,h2,by rw [h1]; exact h3,fun j v hj => ⟨h4 j v hj,v,h4 j v hj⟩⟩⟩
     ·exact ⟨by show xs.length <= maxLen; omega,fun y hy => by obtain ⟨_,hq⟩:=h5 y hy; exact hq⟩
  ·cases hu
 | .st ts,t,ht,fuel,cs,x,h => by
  simp only [tyAt] at ht
  split at ht
  ·rename_i fs hu
   simp only [Bool.and_eq_true,decide_eq_true_eq] at ht
   obtain ⟨hc,hts⟩:=ht
   obtain ⟨xs,n,_,_,hl,hxl,hfl⟩:=DataW.trod_struct hu h
   have hall:∀ f ∈ fs.toList,∃ y,DataW.trod enc M w 0 (fun _ => true) true n f.type ((cs.drop f.offset).take (M.cellsOf f.type)) = some y:=fun f hf => by
    obtain ⟨i,hi⟩:=List.mem_iff_getElem?.1 hf
    have hi':fs[i]? = some f:=by simpa using hi
    have hlt:i < xs.length:=by
     have:=(Array.getElem?_eq_some_iff.1 hi').1
     omega
    exact ⟨xs[i],by rw [hfl i f hi',List.getElem?_eq_getElem hlt]⟩
   obtain ⟨d,h1,h2⟩:=Yc ts hts hall (by rw [hl,hc]; omega)
   refine ⟨d,?_,h2⟩
   simp only [RepC]
   have e:(cs.drop 0).take (Ty.sizes ts) = cs:=by rw [List.drop_zero,List.take_of_length_le (by omega)]
   rw [e] at h1
   exact h1
  ·cases ht
 | .fn _ _,_,ht,_,_,_,_ => by simp [tyAt] at ht
 | .tup _,_,ht,_,_,_,_ => by simp [tyAt] at ht
 | .ptr _,_,ht,_,_,_,_ => by simp [tyAt] at ht
theorem Yc:(ts:List Ty) -> ∀ {fs:List Field} {off:Nat},tyAts M ts fs off = true -> ∀ {n:Nat} {cs:List Value},(∀ f ∈ fs,∃ y,DataW.trod enc M w 0 (fun _ => true) true n f.type ((cs.drop f.offset).take (M.cellsOf f.type)) = some y) ->
  off + Ty.sizes ts <= cs.length -> ∃ d:Ty.dens ts,RepCs M ts w (AllP w) .p d ((cs.drop off).take (Ty.sizes ts)) [] /\ Ty.fits ts d
 | [],fs,off,ht,n,cs,h,hl => ⟨(),by simp [RepCs,Ty.sizes],trivial⟩
 | τ :: ts,[],off,ht,n,cs,h,hl => by simp [tyAts] at ht
 | τ :: ts,f :: fs,off,ht,n,cs,h,hl => by
  simp only [tyAts,Bool.and_eq_true,decide_eq_true_eq] at ht
  obtain ⟨⟨⟨ho,hc⟩,hτ⟩,hts⟩:=ht
  obtain ⟨y,hy⟩:=h f (by simp)
  rw [ho,hc] at hy
  obtain ⟨d,h1,h2⟩:=V0 τ hτ hy
  simp only [Ty.sizes] at hl
  obtain ⟨d2,h3,h4⟩:=Yc ts hts (fun f hf => h f (by simp [hf])) (by omega)
  refine ⟨(d,d2),?_,h2,h4⟩
  simp only [RepCs,Md.hd,Md.tl,Ty.sizes]
  refine ⟨_,_,[],[],?_,rfl,h1,h3⟩
  rw [List.take_add,List.drop_drop]
end
theorem Aid {ty:Ty} {t:TypeId} (ht:tyAt M ty t = true) {v:Value} {d:DataW H} {ps:List MemPlace} (h:DataW.Trod enc M w 0 (fun _ => true) true t v d ps) {r:Reach} {base:Nat} (hv:Value.okWide M w r base t v) :
  ∃ x:ty.den,RepV M ty w (AllP w) .p x v [] /\ ty.fit x:=by
 obtain ⟨fuel,hf⟩:=h
 obtain ⟨x,h1,h2⟩:=V0 ty ht hf
 refine ⟨x,?_,h2⟩
 have hr:=Bh ty h1
 have e:valOf ty v.cells.toList = v:=by
  cases ty with
  | int k =>
   simp only [tyAt] at ht
   split at ht
   ·rename_i hu; obtain ⟨n,rfl⟩:=okWide_int hu hv; rfl
   ·cases ht
  | bool =>
   simp only [tyAt] at ht
   split at ht
   ·rename_i hu; obtain ⟨n,rfl⟩:=okWide_bool hu hv; rfl
   ·cases ht
  | str =>
   simp only [tyAt] at ht
   split at ht
   ·rename_i hu; obtain ⟨n,rfl⟩:=okWide_string hu hv; rfl
   ·cases ht
  | sl e τ =>
   simp only [tyAt,Bool.and_eq_true] at ht
   obtain ⟨⟨⟨hu,_⟩,_⟩,_⟩:=ht
   split at hu
   ·rename_i hu'; obtain ⟨a,l,c,rfl⟩:=okWide_slice hu' hv; rfl
   ·cases hu
  | st ts =>
   simp only [tyAt] at ht
   split at ht
   ·rename_i hu; obtain ⟨cs,rfl,_⟩:=okWide_struct hu hv; simp [valOf,Value.cells]
   ·cases ht
  | fn _ _ => simp [tyAt] at ht
  | tup _ => simp [tyAt] at ht
  | ptr _ => simp [tyAt] at ht
 rwa [e] at hr
def tyAll (M:Program):List Ty -> List TypeId -> Bool
 | [],[] => true
 | ty :: tys,t :: ts => tyAt M ty t && tyAll M tys ts
 | _,_ => false
theorem Aau:∀ {ps:List Ty} {ts:List TypeId},tyAll M ps ts = true -> ∀ {vs:List Value} {ds:List (DataW H)} {pl:List MemPlace},DataW.TrodAll enc M w 0 (fun _ => true) true ts vs ds pl -> ∀ {r:Reach} {base:Nat},
  (∀ (j:Nat) t v,ts[j]? = some t -> vs[j]? = some v -> Value.okWide M w r base t v) -> ∃ x:Ty.dens ps,RepVs M ps w (AllP w) .p x vs [] /\ Ty.fits ps x
 | [],[],_,[],ds,pl,h,_,_,_ => ⟨(),by simp [RepVs],trivial⟩
 | [],[],_,_ :: _,ds,pl,h,_,_,_ => by cases ds <;> exact h.elim
 | [],_ :: _,ht,_,_,_,_,_,_,_ => by simp [tyAll] at ht
 | _ :: _,[],ht,_,_,_,_,_,_,_ => by simp [tyAll] at ht
 | ty :: ps,t :: ts,ht,[],ds,pl,h,_,_,_ => by cases ds <;> exact h.elim
 | ty :: ps,t :: ts,ht,v :: vs,[],pl,h,_,_,_ => h.elim
 | ty :: ps,t :: ts,ht,v :: vs,d :: ds,pl,h,r,base,hok => by
  simp only [tyAll,Bool.and_eq_true] at ht
  obtain ⟨p,q,h1,h2,rfl⟩:=h
  obtain ⟨x,k1,k2⟩:=Aid ht.1 h1 (hok 0 t v rfl rfl)
  obtain ⟨y,l1,l2⟩:=Aau ht.2 h2 (fun j t' v' hj hv => hok (j + 1) t' v' (by simpa using hj) (by simpa using hv))
  exact ⟨(x,y),by simp only [RepVs,Md.hd,Md.tl]; exact ⟨v,vs,[],[],rfl,rfl,k1,l1⟩,k2,l2⟩
theorem Aa9 (hl:laidOutB M = true):∀ {ts:List TypeId},ts.all (fun t => M.readableRec t && decide (t < M.types.size)) = true -> ∀ {W W':World} {vs:List Value} {ds:List (DataW H)} {ps:List MemPlace},
  DataW.TrodAll enc M W 0 (fun _ => true) true ts vs ds ps -> Below W.heap.size W W' -> (∀ x ∈ ps,x.block < W.heap.size) -> ∀ {sp:Nat -> Bool},(∀ p ∈ ps,sp p.block = true) -> DataW.TrodAll enc M W' 0 sp true ts vs ds ps
 | [],_,W,W',[],[],ps,h,_,_,_,_ => h
 | [],_,W,W',[],_ :: _,ps,h,_,_,_,_ => h.elim
 | [],_,W,W',_ :: _,ds,ps,h,_,_,_,_ => by cases ds <;> exact h.elim
 | t :: ts,_,W,W',[],ds,ps,h,_,_,_,_ => by cases ds <;> exact h.elim
 | t :: ts,_,W,W',v :: vs,[],ps,h,_,_,_,_ => h.elim
 | t :: ts,hr,W,W',v :: vs,d :: ds,ps,h,hb,hlt,sp,hs => by
  simp only [List.all_cons,Bool.and_eq_true,decide_eq_true_eq] at hr
  obtain ⟨p,q,h1,h2,rfl⟩:=h
  exact ⟨p,q,WideElems.Trod_stays hl hr.1.1 hr.1.2 h1 (fun x hx => hb.same (hlt x (by simp [hx]))) (fun x hx => hs x (by simp [hx])),
   Aa9 hl hr.2 h2 hb (fun x hx => hlt x (by simp [hx])) (fun x hx => hs x (by simp [hx])),rfl⟩
end
section
variable {H:Type} {enc:TypeId × Value -> H} {P:Program}
theorem Zs {f:Func} {s:ChangeSpec} {apart fresh handsOn again:Bool} {W W':World} {args:Array Value} {v:Value} {ds gs:List (DataW H)} {before pa pv:List MemPlace}
  (hW:DataW.Whole enc P f.params.toList s.vars apart W args.toList ds gs before)
  (hres:∀ (b:Nat) (sp:Nat -> Bool) (hd:Bool),DataW.TrodAll enc P W' b sp hd f.resultTypes.toList (v.resultList f.resultTypes.size) (s.fn H (ds ++ gs)).results [])
  (hargs:∀ sp:Nat -> Bool,(∀ p ∈ before,sp p.block = true) -> DataW.TrodAll enc P W' 0 sp true f.params.toList args.toList (s.fn H (ds ++ gs)).args pa)
  (hvars:∀ sp:Nat -> Bool,(∀ p ∈ before,sp p.block = true) -> DataW.TrodVars enc P W' sp s.vars (s.fn H (ds ++ gs)).vars pv)
  (hps:before = pa ++ pv) (hb:Below W.heap.size W W')
  (hok:∀ (j:Nat) (t:TypeId) (r:Value),f.resultTypes[j]? = some t -> (v.resultList f.resultTypes.size)[j]? = some r -> Value.okWide P W' .any 0 t r) :
  s.post enc P f apart fresh handsOn again W args v W':=by
 have hlt:∀ p ∈ before,p.block < W.heap.size:=fun p hp => hW.lt p hp
 have hold:∀ p ∈ before,(fun b => decide (b < W.heap.size)) p.block = true:=fun p hp => by simpa using hlt p hp
 refine ⟨ds,gs,before,[],pa,pv,hW,hres _ _ _,hargs _ hold,hvars _ hold,World.keptBut_mono (fun p hp => ⟨hp,?_⟩) (hb.frame (· ∈ before)),fun _ => ?_⟩
 ·rw [hps,List.mem_append] at hp
  exact Or.inr hp
 ·obtain ⟨_,_,_,_,_,hz,hn⟩:=hW
  refine ⟨hok,_,_,([] ++ pa) ++ pv,⟨[] ++ pa,pv,trodAll_append (hargs _ (fun _ _ => rfl)) (hres _ _ _),hvars _ (fun _ _ => rfl),rfl,?_,?_⟩,?_⟩
  ·intro b off hp
   have hin:MemPlace.cell b off ∈ before:=by rw [hps]; simpa using hp
   rw [hb.frozen (hlt _ hin)]
   exact hz b off hin
  ·intro ha
   have:=hn ha
   rw [hps] at this
   simpa using this
  ·intro p hp _
   rw [hps]
   simpa using hp
theorem Ac5 {B:Base} (hl:laidOutB P = true) {k:FuncId} {f:Func} {s:ChangeSpec} {ps:List Ty} {F:Ty.dens ps -> Unit -> Option (Bool × Unit)} (hsig:SigB B P k ⟨ps,[],none,.p,.bool,.p,F⟩)
  (hF:∀ x,Ty.fits ps x -> F x () = some (true,())) (hty:tyAll P ps f.params.toList = true) (hread:f.params.toList.all (fun t => P.readableRec t && decide (t < P.types.size)) = true)
  {tb:TypeId} (hr:f.resultTypes = #[tb]) (hb:P.underlying tb = some .bool) (hvars:s.vars = []) (hspec:∀ ds:List (DataW H),ds.length = f.params.size -> s.fn H ds = { results:=[.lit (.bool true)],args:=ds })
  {W:World} {base:Nat} {args:Array Value} {ds gs:List (DataW H)} {before:List MemPlace} (hval:∀ (j:Nat) t v,f.params[j]? = some t -> args[j]? = some v -> Value.okWide P W .any base t v)
  (hW:DataW.Whole enc P f.params.toList s.vars false W args.toList ds gs before) (hB:BaseOk P B W (AllP W)) {apart fresh handsOn again:Bool} (hap:apart = false) :
  Calls P k args W fun e W' => ∃ v,e = .returned v /\ s.post enc P f apart fresh handsOn again W args v W':=by
 subst hap
 have hW':=hW
 obtain ⟨p,q,hA,hV,rfl,hfz,hnd⟩:=hW
 rw [hvars] at hV
 obtain ⟨rfl,rfl⟩:=trodVars_none hV
 obtain ⟨x,h1,h2⟩:=Aau hty hA (r:=.any) (base:=base) (fun j t v hj hv => hval j t v (by simpa using hj) (by simpa using hv))
 have hC:=hsig.2 W (AllP W) x () args.toList [] [] (true,()) hB (AllP.there W) (ArgsR.of_none h1) List.nodup_nil (by simp) rfl (hF x h2)
 have e1:List.toArray (args.toList ++ []) = args:=by simp
 rw [e1] at hC
 refine hC.mono ?_
 rintro e W' ⟨u,P',Tr,Tq,rfl,hp,hrep,_,_,_⟩
 have hu:u = .bool true:=by
  have hrep:RepV P .bool W' P' .p true u Tr:=hrep
  simp only [RepV] at hrep
  exact hrep.1
 subst hu
 have hbel:Below W.heap.size W W':=⟨hp.os,hp.tape,hp.output,hp.size,fun k hk => hp.block k hk (by simp)⟩
 have hlt:∀ x ∈ p ++ [],x.block < W.heap.size:=fun x hx => hW'.lt x hx
 have hlen:=(trodAll_length hA).2
 have hsp:=hspec ds (by rw [hlen]; simp)
 refine ⟨_,rfl,Zs (pa:=p) (pv:=[]) hW' (fun b sp hd => ?_) (fun sp hs => ?_) (fun sp _ => ?_) rfl hbel ?_⟩
 ·rw [List.append_nil,hsp,hr]
  exact trodAll_mk1 (shut_bool hb _)
 ·rw [List.append_nil,hsp]
  exact Aa9 hl hread hA hbel (fun x hx => hlt x (by simpa using hx)) fun p hp => hs p (by simpa using hp)
 ·rw [List.append_nil,hsp,hvars]; rfl
 ·exact ok_one hr rfl (okWide_bool_mk hb _)
theorem Adn {P:Program} {W:World} {name:String} {vs:List Value} (h:W.var? P name = some (List.toArray vs)) (h0:∃ v,vs[0]? = some v /\ W.cell? ⟨(P.globalNamed name).getD 0,0,none⟩ = some v):VarAt P W (AllP W) name vs:=by
 unfold World.var? at h
 obtain ⟨g,hg,h⟩:=Option.bind_eq_some_iff.1 h
 split at h
 ·rename_i cs e c hc
  cases h
  obtain ⟨v,_,hv⟩:=h0
  rw [hg] at hv
  exact ⟨g,_,_,hg,hc,v,hv⟩
 ·cases h
theorem law_row (hl:laidOutB P = true) {k:FuncId} {f:Func} {s:ChangeSpec} {ps:List Ty} {F:Ty.dens ps -> Unit -> Option (Bool × Unit)} (hsig:SigOk P k ⟨ps,[],none,.p,.bool,.p,F⟩)
  (hF:∀ x,Ty.fits ps x -> F x () = some (true,())) (hty:tyAll P ps f.params.toList = true) (hread:f.params.toList.all (fun t => P.readableRec t && decide (t < P.types.size)) = true)
  {tb:TypeId} (hr:f.resultTypes = #[tb]) (hb:P.underlying tb = some .bool) (hvars:s.vars = []) (hspec:∀ ds:List (DataW H),ds.length = f.params.size -> s.fn H ds = { results:=[.lit (.bool true)],args:=ds })
  {W:World} {base:Nat} {args:Array Value} {ds gs:List (DataW H)} {before:List MemPlace} (hval:∀ (j:Nat) t v,f.params[j]? = some t -> args[j]? = some v -> Value.okWide P W .any base t v)
  (hW:DataW.Whole enc P f.params.toList s.vars false W args.toList ds gs before) {apart fresh handsOn again:Bool} (hap:apart = false) :
  Calls P k args W fun e W' => ∃ v,e = .returned v /\ s.post enc P f apart fresh handsOn again W args v W':=
 Ac5 hl hsig hF hty hread hr hb hvars hspec hval hW BaseOk.nil hap
end
end Go.Abs
