/-
  The meta layer, part 26: whole functions; tables.
-/
import Derived.Test.YtbkefganebmlnaaGreatDoorN25
namespace Go.Abs
open Go.RowKit
set_option linter.unusedVariables false
set_option linter.unusedSimpArgs false
def entC:List Ty -> Nat -> Ctx
 | [],_ => []
 | t :: ts,i => (i,.val (.ptr t) .p) :: entC ts (i + 1)
def envC:(cs:List Ty) -> (i:Nat) -> Ty.dens cs -> Env (entC cs i)
 | [],_,_ => ()
 | t :: ts,i,y => (y.1,envC ts (i + 1) y.2)
def decIo:Option Nat -> Option Nat | some (n + 1) => some n | _ => none
def entM:Option Nat -> Md -> Md | some 0,im => im | _,_ => .p
def ent0 (im:Md):List Ty -> List Ty -> Option Nat -> Nat -> Ctx
 | [],cs,_,i => entC cs i
 | t :: ts,cs,io,i => (i,.val t (entM io im)) :: ent0 im ts cs (decIo io) (i + 1)
def env0 (im:Md):(ps cs:List Ty) -> (io:Option Nat) -> (i:Nat) -> Ty.dens ps -> Ty.dens cs -> Env (ent0 im ps cs io i)
 | [],cs,_,i,_,y => envC cs i y
 | t :: ts,cs,io,i,x,y => (x.1,env0 im ts cs (decIo io) (i + 1) x.2 y)
def fnF (C:FC) (cs:List Ty) (body:Code) (xs:Ty.dens C.ps) (ys:Ty.dens cs):Option C.RT:=
 if C.ps.length + cs.length <= min C.n gB then
  match cst C body C.ret [] (ent0 C.im C.ps cs C.io 0) with
  | some r =>
   if r.dead then r.g (env0 C.im C.ps cs C.io 0 xs ys) fun o => match o with
    | .ret y => some y
    | .norm _ => none
    | .exit _ => none
   else match retR C r.Δ with
    | some h => r.g (env0 C.im C.ps cs C.io 0 xs ys) fun o => match o with
     | .ret y => some y
     | .norm e => some (h e)
     | .exit _ => none
    | none => none
  | none => none
 else none
section
variable {M:Program} {w:World} {P:Prot}
theorem CapR.at:∀ {cs:List Ty} {i:Nat} {y:Ty.dens cs} {vs:List Value},CapR M w P cs y vs -> ∀ {tm:Nat -> Value} {Tf:Nat -> List Nat},(∀ j v,vs[j]? = some v -> tm (i + j) = v) ->
  vs.length = cs.length /\ ∀ t,RepE M w P tm Tf (dyn (entC cs i) (envC cs i y) t) (tm t) [] /\ (t < i \/ i + cs.length <= t -> dyn (entC cs i) (envC cs i y) t = Ex.non)
 | [],i,y,vs,h,tm,Tf,ht => ⟨by rw [show vs = [] from h]; rfl,fun t => ⟨rfl,fun _ => rfl⟩⟩
 | c :: cs,i,y,vs,h,tm,Tf,ht => by
  obtain ⟨v,r,rfl,h1,h3⟩:=h
  have ih:=CapR.at (i:=i + 1) h3 (tm:=tm) (Tf:=Tf) (fun j v hj => by
   have:=ht (j + 1) v (by simpa using hj)
   rwa [show i + (j + 1) = i + 1 + j by omega] at this)
  refine ⟨by simp [ih.1],fun t => ?_⟩
  by_cases hti:i = t
  ·subst hti
   have e:dyn (entC (c :: cs) i) (envC (c :: cs) i y) i = ⟨.val (.ptr c) .p,fun _ => y.1⟩:=dyn_eq (p:=(i,.val (.ptr c) .p))
   rw [e]
   refine ⟨?_,fun h => ?_⟩
   ·rw [show tm i = v from ht 0 _ rfl]; exact h1
   ·simp only [List.length_cons] at h; omega
  ·have e:dyn (entC (c :: cs) i) (envC (c :: cs) i y) t = dyn (entC cs (i + 1)) (envC cs (i + 1) y.2) t:=dyn_ne (p:=(i,.val (.ptr c) .p)) hti
   rw [e]
   exact ⟨(ih.2 t).1,fun h => (ih.2 t).2 (by simp only [List.length_cons] at h; omega)⟩
def T0 (io:Option Nat) (i:Nat) (Ti:List Nat) (t:Nat):List Nat:=match io with | some n => if t = i + n then Ti else [] | none => []
theorem ArgsR.cons {im:Md} {io:Option Nat} {t:Ty} {ts:List Ty} {x:Ty.dens (t :: ts)} {vs:List Value} {Ti:List Nat} (h:ArgsR M w P im io (t :: ts) x vs Ti) :
  ∃ v r Ti',vs = v :: r /\ RepV M t w P (entM io im) x.1 v (T0 io 0 Ti 0) /\ ArgsR M w P im (decIo io) ts x.2 r Ti' /\ (∀ i k,T0 (decIo io) (i + 1) Ti' k = if k = i then [] else T0 io i Ti k):=by
 rcases io with _ | _ | n
 ·obtain ⟨v,r,h1,h2,h3⟩:=h
  exact ⟨v,r,Ti,h1,h2,h3,fun i k => by simp [T0,decIo]⟩
 ·obtain ⟨v,r,h1,h2,h3⟩:=h
  refine ⟨v,r,[],h1,by simpa [T0,entM] using h2,ArgsR.of_none h3,fun i k => ?_⟩
  simp only [T0,decIo,Nat.add_zero]
  split
  ·rfl
  ·rfl
 ·obtain ⟨v,r,h1,h2,h3⟩:=h
  refine ⟨v,r,Ti,h1,by simpa [T0,entM] using h2,h3,fun i k => ?_⟩
  simp only [T0,decIo]
  by_cases hk:k = i
  ·subst hk; rw [if_pos rfl,if_neg (by omega)]
  ·rw [if_neg hk,show i + 1 + n = i + (n + 1) by omega]
theorem ArgsR.at {im:Md}:∀ {ps cs:List Ty} {io:Option Nat} {i:Nat} {x:Ty.dens ps} {y:Ty.dens cs} {vs caps:List Value} {Ti:List Nat},ArgsR M w P im io ps x vs Ti -> CapR M w P cs y caps ->
  ∀ {tm:Nat -> Value} {Tf:Nat -> List Nat},(∀ j v,(vs ++ caps)[j]? = some v -> tm (i + j) = v) ->
  (vs ++ caps).length = ps.length + cs.length /\ (∀ n,io = some n -> Ti = [] \/ n < vs.length) /\ ∀ t,RepE M w P tm Tf (dyn (ent0 im ps cs io i) (env0 im ps cs io i x y) t) (tm t) (T0 io i Ti t) /\ (t < i \/ i + (ps.length + cs.length) <= t -> dyn (ent0 im ps cs io i) (env0 im ps cs io i x y) t = Ex.non)
 | [],cs,io,i,x,y,vs,caps,Ti,h,hp,tm,Tf,ht => by
  have h:vs = [] /\ Ti = []:=by rcases io with _ | _ | _ <;> exact h
  obtain ⟨rfl,rfl⟩:=h
  have:=CapR.at hp (tm:=tm) (Tf:=Tf) (i:=i) ht
  have hT:∀ t,T0 io i [] t = []:=fun t => by unfold T0; split <;> simp
  refine ⟨by simpa using this.1,fun _ _ => .inl rfl,fun t => ⟨by rw [hT]; exact (this.2 t).1,fun h => (this.2 t).2 (by simpa using h)⟩⟩
 | p :: ps,cs,io,i,x,y,vs,caps,Ti,h,hp,tm,Tf,ht => by
  obtain ⟨v,r,Ti',rfl,h1,h2,h3⟩:=h.cons
  have ih:=ArgsR.at (i:=i + 1) (x:=x.2) h2 hp (tm:=tm) (Tf:=Tf) (fun j v hj => by
   have:=ht (j + 1) v (by simpa using hj)
   rwa [show i + (j + 1) = i + 1 + j by omega] at this)
  refine ⟨by have:=ih.1; simp only [List.cons_append,List.length_cons] at this ⊢; omega,fun n hn => ?_,fun t => ?_⟩
  ·subst hn
   cases n with
   | zero => exact .inr (by simp)
   | succ n =>
    rcases ih.2.1 n rfl with h' | h'
    ·left
     have:=h3 0 (0 + (n + 1))
     simp only [T0,decIo] at this
     rw [if_pos (by omega),if_neg (by omega),if_pos trivial] at this
     rw [<- this]; exact h'
    ·exact .inr (by simp; omega)
  ·by_cases hti:i = t
   ·subst hti
    have e:dyn (ent0 im (p :: ps) cs io i) (env0 im (p :: ps) cs io i x y) i = ⟨.val p (entM io im),fun _ => x.1⟩:=dyn_eq (p:=(i,.val p (entM io im)))
    rw [e]
    refine ⟨?_,fun h => ?_⟩
    ·have:tm i = v:=ht 0 v rfl
     rw [this]
     have e0:T0 io i Ti i = T0 io 0 Ti 0:=by
      unfold T0
      cases io with
      | none => rfl
      | some n =>
       simp only
       by_cases hn:n = 0
       ·rw [if_pos (by omega),if_pos (by omega)]
       ·rw [if_neg (by omega),if_neg (by omega)]
     rw [e0]
     exact h1
    ·simp only [List.length_cons] at h; omega
   ·have e:dyn (ent0 im (p :: ps) cs io i) (env0 im (p :: ps) cs io i x y) t = dyn (ent0 im ps cs (decIo io) (i + 1)) (env0 im ps cs (decIo io) (i + 1) x.2 y) t:=dyn_ne (p:=(i,.val p (entM io im))) hti
    rw [e]
    have h4:=h3 i t
    rw [if_neg (Ne.symm hti)] at h4
    rw [<- h4]
    exact ⟨(ih.2.2 t).1,fun h => (ih.2.2 t).2 (by simp only [List.length_cons] at h; omega)⟩
end
theorem Adg {M:Program} {B:Base} {f:FuncId} {fn:Func} {F:FC} {cs:List Ty} {body:Code} {g:Ty.dens F.ps -> Ty.dens cs -> Option F.RT}
  (hpin:∀ t,F.Tb.pin t = false -> F.io ≠ some t) (hiol:∀ k,F.io = some k -> k < F.ps.length)
  (hf : M.funcs[f]? = some fn) (hb : fn.body = some body) (hn : fn.ntmps = F.n) (hname : fn.name ≠ "runtime.NumGoroutine")
  (hle:∀ xs ys y,g xs ys = some y -> F.ps.length + cs.length <= min F.n gB)
  (hbody:∀ (C:Cx) (vs:List Value) xs ys y a w (Q:Exit -> Act -> World -> Prop),C.M = M -> C.n = F.n -> C.gb = none -> BaseOk M B C.w0 C.P0 -> (∀ t,F.Tb.pin t = false -> C.pv t = none) -> (∀ k,F.io = some k -> ∃ v,vs[k]? = some v /\ C.pv k = some v) -> (F.io = none -> ∀ t,C.pv t = none) ->
   SimE C (ent0 F.im F.ps cs F.io 0) (env0 F.im F.ps cs F.io 0 xs ys) a w -> g xs ys = some y -> (∀ a' w',RetE C fn F vs y a' w' -> Q .ret a' w' /\ Q .normal a' w') -> body.wp C.M Q a w) :
  SigB B M f ⟨F.ps,cs,F.io,F.im,F.R,F.m,g⟩:=by
 refine ⟨⟨fn,hf,hname,by rw [hb]; rfl⟩,fun w P xs ys vs caps Ti y hbase hthere hv hTi hTp hcap hy => ?_⟩
 replace hy:g xs ys = some y:=hy
 replace hv:ArgsR M w P F.im F.io F.ps xs vs Ti:=hv
 replace hcap:CapR M w P cs ys caps:=hcap
 have hle2:=hle xs ys y hy
 have hle:F.ps.length + cs.length <= F.n:=by omega
 have hleg:F.ps.length + cs.length <= gB:=by omega
 refine calls_of_wp hf hb ?_
 generalize htm:(List.toArray (vs ++ caps) ++ Array.replicate (fn.ntmps - (List.toArray (vs ++ caps)).size) undef:Array Value) = tmps
 have hat:∀ j v,(vs ++ caps)[j]? = some v -> tmps.getD (0 + j) undef = v:=fun j v hj => by
  rw [<- htm,Nat.zero_add]
  have hlt:j < (vs ++ caps).length:=(List.getElem?_eq_some_iff.1 hj).1
  rw [Array.getD_eq_getD_getElem?,Array.getElem?_append_left (by simpa using hlt)]
  simp only [List.getElem?_toArray,hj,Option.getD_some]
 let C:Cx:=⟨M,F.n,fun t => if F.io = some t then vs[t]? else none,Ti,w,P,none,0⟩
 have hvc:(vs ++ caps).length = F.ps.length + cs.length:=(ArgsR.at (i:=0) hv hcap (tm:=fun t => tmps.getD t undef) (Tf:=fun t => T0 F.io 0 Ti t) hat).1
 obtain ⟨hlen,hio0,hrep⟩:=ArgsR.at (i:=0) hv hcap (tm:=C.at { tmps:=tmps,defers:=[] } w) (Tf:=fun t => T0 F.io 0 Ti t) (fun j v hj => by
  have hlt:j < (vs ++ caps).length:=(List.getElem?_eq_some_iff.1 hj).1
  rw [Cx.at_n (by omega)]
  exact hat j v hj)
 have hvl:vs.length = F.ps.length:=by
  have h2:=(CapR.at (i:=0) hcap (tm:=fun j => caps.getD j undef) (Tf:=fun _ => []) (fun j v hj => by simp [List.getD_eq_getElem?_getD,hj])).1
  simp only [List.length_append] at hlen; omega
 have hsz:tmps.size = F.n:=by
  rw [<- htm,Array.size_append,Array.size_replicate,List.size_toArray,hlen,hn]
  omega
 have hT0:∀ t,T0 F.io 0 Ti t = Ti \/ T0 F.io 0 Ti t = []:=fun t => by
  unfold T0; split
  ·split
   ·exact .inl rfl
   ·exact .inr rfl
  ·exact .inr rfl
 have hpv:∀ k,F.io = some k -> ∃ v,vs[k]? = some v /\ C.pv k = some v:=fun k hk => by
  have hlt:k < vs.length:=by rw [hvl]; exact hiol k hk
  exact ⟨vs[k],List.getElem?_eq_getElem hlt,by simp only [C,hk,if_true]; exact List.getElem?_eq_getElem hlt⟩
 have hpin':∀ t,F.Tb.pin t = false -> C.pv t = none:=fun t ht => by simp only [C]; rw [if_neg (hpin t ht)]
 have hsim:SimE C (ent0 F.im F.ps cs F.io 0) (env0 F.im F.ps cs F.io 0 xs ys) { tmps:=tmps,defers:=[] } w:=by
  refine ⟨P,fun t => T0 F.io 0 Ti t,hsz,rfl,fun t ht => (hrep t).2 (.inr (by have:¬ t < F.n:=fun h => ht (slots_n h); omega)),fun t ht => ?_,⟨rfl,rfl,rfl,Nat.le_refl _,fun _ _ _ => rfl,fun k hk o => (hTp k hk).2 o,fun _ _ h => h,fun _ _ h => .inl h,hthere⟩,fun t => (hrep t).1,fun t => ?_,fun t u htu b hb hb' => ?_,fun t b hb => ?_,fun t v hv => ?_,fun b hb => by cases hb⟩
  ·have ht:F.n <= t:=Nat.le_of_not_lt fun h => ht (slots_n h)
   unfold T0; split
   ·rename_i k hk
    have:=hiol k hk
    rw [if_neg (by omega)]
   ·rfl
  ·rcases hT0 t with h | h
   ·simp only [h]; exact hTi
   ·simp only [h]; exact List.nodup_nil
  ·simp only [T0] at hb hb'
   split at hb
   ·rename_i k hk
    rw [hk] at hb'
    simp only at hb'
    split at hb
    ·rename_i h1
     split at hb'
     ·rename_i h2; exact htu (h1.trans h2.symm)
     ·simp at hb'
    ·simp at hb
   ·simp at hb
  ·rcases hT0 t with h | h
   ·simp only [h] at hb; exact ⟨.inr hb,(hTp b hb).1⟩
   ·simp only [h] at hb; simp at hb
  ·simp only [C] at hv
   split at hv
   ·have:=hat t v (by rw [List.getElem?_append_left (List.getElem?_eq_some_iff.1 hv).1]; exact hv)
    rw [Nat.zero_add] at this
    exact this
   ·cases hv
 refine hbody C vs xs ys y _ w _ rfl rfl rfl hbase hpin' hpv (fun hio t => by simp only [C,hio]; rfl) hsim hy ?_
 rintro a w' ⟨hd,v,P',Tr,Tq,h1,h2,h3,h4,h5,h6⟩
 have hp:bodyPost M fn (fun e w' => ∃ u P' Tr Tq,e = .returned u /\ PExt Ti w P w' P' /\ RepV M F.R w' P' F.m y.1 u Tr /\ IoR M w' P' F.im F.ps F.io y.2 vs Tq /\
   (Tr ++ Tq).Nodup /\ ∀ b ∈ Tr ++ Tq,b ∈ Ti \/ (w.heap.size <= b /\ b < w'.heap.size)) .ret a w':=by
  refine ⟨hd,v,h1,v,P',Tr,Tq,rfl,h2,h3,h4,h5,fun b hb => ?_⟩
  obtain ⟨k1,k2⟩:=h6 b hb
  rcases k1 with k1 | k1
  ·exact .inr ⟨k1,k2⟩
  ·exact .inl k1
 exact ⟨hp,hp⟩
theorem fnF_wp {C:Cx} (hm:C.M.follows .mixedOrders = true) (hgb:C.gb = none) {fn:Func} {F:FC} {cs:List Ty} {body:Code} (hT:TabOk C.M F.Tb) (hsg:∀ f s,F.Tb.sg f = some s -> SigR C.M C.w0 C.P0 f s)
  (hpin:∀ t,F.Tb.pin t = false -> C.pv t = none) (hn:C.n = F.n) {vs:List Value} (hpv:∀ k,F.io = some k -> ∃ v,vs[k]? = some v /\ C.pv k = some v) (hrv:fn.results.toList = F.rv)
  {xs:Ty.dens F.ps} {ys:Ty.dens cs} {y:F.RT} (hy:fnF F cs body xs ys = some y) {a:Act} {w:World} (hsim:SimE C (ent0 F.im F.ps cs F.io 0) (env0 F.im F.ps cs F.io 0 xs ys) a w) {Q:Exit -> Act -> World -> Prop}
  (hret:∀ a' w',RetE C fn F vs y a' w' -> Q .ret a' w' /\ Q .normal a' w'):body.wp C.M Q a w:=by
 unfold fnF at hy
 split at hy
 ·split at hy
  ·rename_i r hr
   split at hy
   ·rw [r.ok] at hy
    obtain ⟨o,ho,hy⟩:=bind_some hy
    refine Kv (C:=C) hm hgb hT hsg hpin hn hpv hrv body hr ho hsim ?_
    cases o with
    | norm e => cases hy
    | exit z => cases hy
    | ret y' => cases hy; exact fun a' w' h' => (hret a' w' h').1
   ·split at hy
    ·rename_i h hh
     rw [r.ok] at hy
     obtain ⟨o,ho,hy⟩:=bind_some hy
     refine Kv (C:=C) hm hgb hT hsg hpin hn hpv hrv body hr ho hsim ?_
     cases o with
     | norm e =>
      cases hy
      exact fun a' w' h' => (hret a' w' (X5 (C:=C) hT hn hpv hrv hh h')).2
     | exit z => cases hy
     | ret y' => cases hy; exact fun a' w' h' => (hret a' w' h').1
    ·cases hy
  ·cases hy
 ·cases hy
theorem fnF_ok {M:Program} {B:Base} (hm:M.follows .mixedOrders = true) {f:FuncId} {fn:Func} {F:FC} {cs:List Ty} {body:Code} (hT:TabOk M F.Tb) (hsg:∀ f s,F.Tb.sg f = some s -> SigB B M f s)
  (hpin:∀ t,F.Tb.pin t = false -> F.io ≠ some t) (hiol:∀ k,F.io = some k -> k < F.ps.length)
  (hf : M.funcs[f]? = some fn) (hb : fn.body = some body) (hn : fn.ntmps = F.n) (hrv : fn.results.toList = F.rv) (hname : fn.name ≠ "runtime.NumGoroutine") :
  SigB B M f ⟨F.ps,cs,F.io,F.im,F.R,F.m,fnF F cs body⟩:=by
 refine Adg hpin hiol hf hb hn hname (fun xs ys y hy => ?_) (fun C vs xs ys y a w Q hC hCn hgb hbase hp1 hp2 hp3 hsim hy hret => ?_)
 ·unfold fnF at hy
  split at hy
  ·assumption
  ·cases hy
 ·subst hC
  exact fnF_wp hm hgb hT (fun f s h => (hsg f s h).at hbase) hp1 hCn hp2 hrv hy hsim hret
def fnD (C:FC) (cs:List Ty) (body:Code) (xs:Ty.dens C.ps) (ys:Ty.dens cs):Option C.RT:=
 match cst C body C.ret [] (ent0 C.im C.ps cs C.io 0) with
 | some r => if r.dead then r.g (env0 C.im C.ps cs C.io 0 xs ys) fun o => match o with
   | .ret y => some y
   | _ => none
  else none
 | none => none
theorem fnD_wp {C:Cx} (hm:C.M.follows .mixedOrders = true) (hgb:C.gb = none) {fn:Func} {F:FC} {cs:List Ty} {body:Code} (hT:TabOk C.M F.Tb) (hsg:∀ f s,F.Tb.sg f = some s -> SigR C.M C.w0 C.P0 f s)
  (hpin:∀ t,F.Tb.pin t = false -> C.pv t = none) (hn:C.n = F.n) {vs:List Value} (hpv:∀ k,F.io = some k -> ∃ v,vs[k]? = some v /\ C.pv k = some v) (hrv:fn.results.toList = F.rv)
  {xs:Ty.dens F.ps} {ys:Ty.dens cs} {y:F.RT} (hy:fnD F cs body xs ys = some y) {a:Act} {w:World} (hsim:SimE C (ent0 F.im F.ps cs F.io 0) (env0 F.im F.ps cs F.io 0 xs ys) a w) {Q:Exit -> Act -> World -> Prop}
  (hret:∀ a' w',RetE C fn F vs y a' w' -> Q .ret a' w'):body.wp C.M Q a w:=by
 unfold fnD at hy
 split at hy
 ·rename_i r hr
  split at hy
  ·rw [r.ok] at hy
   obtain ⟨o,ho,hy⟩:=bind_some hy
   refine Kv (C:=C) hm hgb hT hsg hpin hn hpv hrv body hr ho hsim ?_
   cases o with
   | norm e => cases hy
   | exit z => cases hy
   | ret y' => cases hy; exact fun a' w' h' => hret a' w' h'
  ·cases hy
 ·cases hy
def asgO (o:Oper):Option Nat:=match o.op,o.dst,o.guard with
 | .assign (.const _),some d,none => some d
 | _,_,_ => none
def movO (o:Oper):Option Nat:=match o.op,o.dst,o.guard with
 | .move (.tmp 0),some d,none => some d
 | _,_,_ => none
def eqlO (o:Oper):Option (TypeId × Nat × Nat):=match o.op,o.dst,o.guard with
 | .binOp .eql tS (.tmp d1) (.const (.slice none 0 0)) _,some d,none => some (tS,d1,d)
 | _,_,_ => none
def nilOps (Tb:Tab) (n:Nat) (p:Ty):List Oper -> List Oper -> Nat -> Bool
 | [o0],[o1,o2],d => match asgO o0,movO o1,eqlO o2 with
  | some d0,some d1,some (tS,d1',d2) => decide (d1' = d1) && decide (d2 = d) && decide (d0 ≠ 0) && decide (d1 ≠ 0) && decide (d2 ≠ 0) && decide (d0 < n) && decide (d1 < n) && decide (d2 < n) && Tb.is tS p
  | _,_,_ => false
 | _,_,_ => false
def Yu (Tb:Tab) (n:Nat) (p:Ty):Code -> Option (Code × Code)
 | .seq (.region _ ops0 false) (.seq (.seq (.region _ ops1 false) (.cond (.tmp d) X .skip)) rest) => if nilOps Tb n p ops0.toList ops1.toList d then some (X,rest) else none
 | _ => none
section
variable {C:Cx} {fr:Fr} {a:Act} {w:World} {P:Prot} {T:Nat -> List Nat}
theorem Sim.junk (h:Sim C fr a w P T) {d:Nat} (v:Value) (hd:d < C.n) (hp:C.pv d = none) (h0:fr d = Ex.non) (hon:∀ k,(fr k).1.on d = false):Sim C fr (a.put (some d) v) w P T:=by
 have hat:∀ t,t ≠ d -> Act.at (a.put (some d) v) t = Act.at a t:=fun t ht => by
  rw [Act.at_put (by rw [h.size]; exact hd),if_neg ht]
 have hatC:∀ t,t ≠ d -> C.at (a.put (some d) v) w t = C.at a w t:=fun t ht => by
  unfold Cx.at
  rw [hat t ht]
 refine ⟨?_,h.defers,h.dom,h.tdom,h.pext,fun t => ?_,h.nodup,h.apart,h.new,fun t v' hv => ?_,h.gown⟩
 ·have:=h.size
  simpa [Act.put] using this
 ·by_cases e:t = d
  ·subst e
   have:=h.rep t
   rw [h0] at this ⊢
   exact this
  ·rw [hatC t e]
   exact (h.rep t).mono (Keeps.refl w P _) (fun i hi => hatC i (fun e' => by rw [e',hon] at hi; cases hi)) (fun i hi => ⟨rfl,fun b _ => .refl w b⟩)
 ·by_cases e:t = d
  ·subst e; rw [hp] at hv; cases hv
  ·rw [hat t e]; exact h.pin t v' hv
end
theorem Ac1 {im:Md} {e:TypeId} {t:Ty} {xs:Ty.dens [.sl e t]} {ys:Ty.dens []} {d:Nat} (hd:d ≠ 0):dyn (ent0 im [.sl e t] [] none 0) (env0 im [.sl e t] [] none 0 xs ys) d = Ex.non:=
 dyn_ne (p:=(0,.val (.sl e t) .p)) (fun e => hd e.symm)
theorem ent0_on {im:Md} {e:TypeId} {t:Ty} {xs:Ty.dens [.sl e t]} {ys:Ty.dens []} (d k:Nat):(dyn (ent0 im [.sl e t] [] none 0) (env0 im [.sl e t] [] none 0 xs ys) k).1.on d = false:=by
 by_cases hk:k = 0
 ·subst hk
  have e:dyn (ent0 im [.sl e t] [] none 0) (env0 im [.sl e t] [] none 0 xs ys) 0 = ⟨.val (.sl e t) .p,fun _ => xs.1⟩:=dyn_eq (p:=(0,.val (.sl e t) .p))
  rw [e]; rfl
 ·rw [Ac1 hk]; rfl
theorem SimE.junk {C:Cx} {im:Md} {e:TypeId} {t:Ty} {xs:Ty.dens [.sl e t]} {ys:Ty.dens []} {a:Act} {w:World} (h:SimE C (ent0 im [.sl e t] [] none 0) (env0 im [.sl e t] [] none 0 xs ys) a w) {d:Nat} (v:Value) (hd:d < C.n) (hp:C.pv d = none) (h0:d ≠ 0) :
  SimE C (ent0 im [.sl e t] [] none 0) (env0 im [.sl e t] [] none 0 xs ys) (a.put (some d) v) w:=by
 obtain ⟨P,T,h⟩:=h
 exact ⟨P,T,h.junk v hd hp (Ac1 h0) (ent0_on d)⟩
theorem SimE.first {C:Cx} {im:Md} {e:TypeId} {t:Ty} {xs:Ty.dens [.sl e t]} {ys:Ty.dens []} {a:Act} {w:World} (h:SimE C (ent0 im [.sl e t] [] none 0) (env0 im [.sl e t] [] none 0 xs ys) a w) (hn:0 < C.n) :
  ∃ b i j,Act.at a 0 = .slice b i j /\ (b = none -> xs.1 = []):=by
 obtain ⟨P,T,h⟩:=h
 have hr:=h.rep 0
 rw [Cx.at_n (by decide)] at hr
 have e:dyn (ent0 im [.sl e t] [] none 0) (env0 im [.sl e t] [] none 0 xs ys) 0 = ⟨.val (.sl e t) .p,fun _ => xs.1⟩:=dyn_eq (p:=(0,.val (.sl e t) .p))
 rw [e] at hr
 obtain ⟨_,⟨h1,b,h2⟩ | ⟨b,off,cap,cells,h2,_⟩⟩:=hr
 ·exact ⟨b,0,0,h2,fun _ => h1⟩
 ·exact ⟨_,_,_,h2,fun h => by cases h⟩
theorem Af4 {M:Program} (w:World) (d:Nat) {tS e:TypeId} (hu:M.underlying tS = some (.slice e)) (b:Option Addr) (i j:Nat):(Op.equalIn (d + 1) tS (.slice b i j) (.slice none 0 0)).run M w = .ok b.isNone w:=by
 cases b <;> simp [Op.equalIn,run_underlying hu]
theorem nil_eql {M:Program} {w:World} {tS e:TypeId} (hu:M.underlying tS = some (.slice e)) (b:Option Addr) (i j:Nat):(Op.equal tS (.slice b i j) (.slice none 0 0)).run M w = .ok b.isNone w:=Af4 w 9999 hu b i j
theorem Agx {M:Program} {B:Base} (hm:M.follows .mixedOrders = true) {f:FuncId} {fn:Func} {Tb:Tab} {n:Nat} {e:TypeId} {t R:Ty} {im m:Md} {rv:List ResultVar} {c X rest:Code} (hT:TabOk M Tb) (hsg:∀ f s,Tb.sg f = some s -> SigB B M f s)
  (hf : M.funcs[f]? = some fn) (hb : fn.body = some c) (hn : fn.ntmps = n) (hrv : fn.results.toList = rv) (hname : fn.name ≠ "runtime.NumGoroutine") (hs : Yu Tb n (.sl e t) c = some (X, rest))
  (heq:∀ ys,fnD ⟨Tb,n,[.sl e t],none,im,R,m,rv⟩ [] X (([]:List t.den),()) ys = fnF ⟨Tb,n,[.sl e t],none,im,R,m,rv⟩ [] rest (([]:List t.den),()) ys) :
  SigB B M f ⟨[.sl e t],[],none,im,R,m,fnF ⟨Tb,n,[.sl e t],none,im,R,m,rv⟩ [] rest⟩:=by
 refine Adg (F:=⟨Tb,n,[.sl e t],none,im,R,m,rv⟩) (cs:=[]) (fun t ht => by simp) (fun k hk => by cases hk) hf hb hn hname (fun xs ys y hy => ?_) (fun C vs xs ys y a w Q hC hCn hgb hbase hp1 hp2 hp3 hsim hy hret => ?_)
 ·unfold fnF at hy
  split at hy
  ·assumption
  ·cases hy
 ·subst hC
  have hpn:∀ t,C.pv t = none:=hp3 rfl
  replace hCn:C.n = n:=hCn
  unfold Yu at hs
  split at hs
  ·rename_i i0 ops0 i1 ops1 d X' rest'
   split at hs
   ·rename_i hops
    cases hs
    unfold nilOps at hops
    split at hops
    ·rename_i d' o0 o1 o2 ho0 ho1
     split at hops
     ·rename_i d0 d1 tS d1' d2 g0 g1 g2
      simp only [Bool.and_eq_true,decide_eq_true_eq] at hops
      obtain ⟨⟨⟨⟨⟨⟨⟨⟨rfl,rfl⟩,z0⟩,z1⟩,z2⟩,l0⟩,l1⟩,l2⟩,hty⟩:=hops
      have hu:=(Tab.of_is hT hty).kind.1
      obtain ⟨v0,q0,q1,q2⟩:∃ v,o0.op = .assign (.const v) /\ o0.dst = some d0 /\ o0.guard = none:=by
       unfold asgO at g0
       split at g0
       ·rename_i v d'' k1 k2 k3; cases g0; exact ⟨_,k1,k2,k3⟩
       ·cases g0
      obtain ⟨r0,r1,r2⟩:o1.op = .move (.tmp 0) /\ o1.dst = some d1' /\ o1.guard = none:=by
       unfold movO at g1
       split at g1
       ·rename_i d'' k1 k2 k3; cases g1; exact ⟨k1,k2,k3⟩
       ·cases g1
      obtain ⟨t2,s0,s1,s2⟩:∃ t2,o2.op = .binOp .eql tS (.tmp d1') (.const (.slice none 0 0)) t2 /\ o2.dst = some d2 /\ o2.guard = none:=by
       unfold eqlO at g2
       split at g2
       ·rename_i k1 k2 k3; cases g2; exact ⟨_,k1,k2,k3⟩
       ·cases g2
      have wt:∀ (o:Oper) y,o.guard = none -> Region.wanted o y = true:=fun o y ho => by unfold Region.wanted; rw [ho]
      refine wp_seq (wp_region_list ?_)
      rw [ho0]
      unfold wpList
      rw [if_pos (wt _ _ q2)]
      refine .inl (Jh (v:=v0) (w':=w) (by simp [execOp,q0,Act.eval]) ?_)
      rw [q1]
      unfold wpList
      have h1:=hsim.junk v0 (by rw [hCn]; exact l0) (hpn _) z0
      generalize a.put (some d0) v0 = a1 at h1
      refine wp_seq (wp_seq (wp_region_list ?_))
      rw [ho1]
      unfold wpList
      rw [if_pos (wt _ _ r2)]
      obtain ⟨b,bi,bj,hb0,hbn⟩:=h1.first (by rw [hCn]; omega)
      refine .inl (Jh (v:=.slice b bi bj) (w':=w) (by simp [execOp,r0]; show _ = _; rw [<- hb0]; rfl) ?_)
      rw [r1]
      have h2:=h1.junk (.slice b bi bj) (by rw [hCn]; exact l1) (hpn _) z1
      have hd1:Act.at (a1.put (some d1') (.slice b bi bj)) d1' = .slice b bi bj:=by
       obtain ⟨P1,T1,h1'⟩:=h1
       rw [Act.at_put (by rw [h1'.size,hCn]; exact l1),if_pos rfl]
      generalize a1.put (some d1') (.slice b bi bj) = a2 at h2 hd1
      unfold wpList
      rw [if_pos (wt _ _ s2)]
      refine .inl (Jh (v:=.bool b.isNone) (w':=w) (by
       have:a2.tmps[d1']?.getD undef = .slice b bi bj:=by simpa [Act.at,Array.getD_eq_getD_getElem?] using hd1
       have e2:=nil_eql (w:=w) hu b bi bj
       simp [execOp,s0,this,eqGuard,binOp,Act.eval,e2]) ?_)
      rw [s1]
      have h3:=h2.junk (.bool b.isNone) (by rw [hCn]; exact l2) (hpn _) z2
      have hd2:Act.at (a2.put (some d2) (.bool b.isNone)) d2 = .bool b.isNone:=by
       obtain ⟨P1,T1,h2'⟩:=h2
       rw [Act.at_put (by rw [h2'.size,hCn]; exact l2),if_pos rfl]
      generalize a2.put (some d2) (.bool b.isNone) = a3 at h3 hd2
      unfold wpList
      refine wp_cond (t:=b.isNone) hd2 ?_
      cases hbb:b.isNone with
      | true =>
       rw [if_pos rfl]
       obtain ⟨x,u⟩:=xs
       have hx:x = []:=hbn (Option.isNone_iff_eq_none.1 hbb)
       subst hx
       have hy':fnD ⟨Tb,n,[.sl e t],none,im,R,m,rv⟩ [] X (([]:List t.den),()) ys = some y:=(heq ys).trans hy
       exact fnD_wp hm hgb hT (fun f s h => (hsg f s h).at hbase) hp1 hCn hp2 hrv hy' h3 fun a' w' h' => (hret a' w' h').1
      | false =>
       rw [if_neg (by simp)]
       exact wp_skip (fnF_wp hm hgb hT (fun f s h => (hsg f s h).at hbase) hp1 hCn hp2 hrv hy h3 hret)
     ·cases hops
    ·cases hops
   ·cases hs
  ·cases hs
def lk {α:Type}:List (Nat × α) -> Nat -> Option α
 | [],_ => none
 | p :: l,n => if p.1 = n then some p.2 else lk l n
def LkAll {α:Type} (Q:Nat -> α -> Prop):List (Nat × α) -> Prop
 | [] => True
 | p :: l => Q p.1 p.2 /\ LkAll Q l
theorem lk_all {α:Type} {Q:Nat -> α -> Prop}:∀ {l:List (Nat × α)},LkAll Q l -> ∀ n x,lk l n = some x -> Q n x
 | [],_,n,x,h => by cases h
 | p :: l,hl,n,x,h => by
  simp only [lk] at h
  split at h
  ·rename_i e; cases h; exact e ▸ hl.1
  ·exact lk_all hl.2 n x h
structure Hd where
 ps:List Ty
 cs:List Ty
 io:Option Nat
 im:Md
 R:Ty
 m:Md
 dm:List (Nat × Md)
def mkTab (tys:List (Nat × Ty)) (sgs:List (Nat × FSig)) (h:Hd):Tab:=⟨lk tys,lk sgs,lk h.dm,fun _ => false,fun n => decide (h.io = some n)⟩
def mkFC (tys:List (Nat × Ty)) (sgs:List (Nat × FSig)) (fn:Func) (h:Hd):FC:=
 ⟨mkTab tys sgs h,fn.ntmps,h.ps,h.io,h.im,h.R,h.m,fn.results.toList⟩
def Pq (tys:List (Nat × Ty)) (sgs:List (Nat × FSig)) (fn:Func) (h:Hd):Option (Code × Code):=
 match h.ps,h.cs,h.io with
 | [.sl e t],[],none => Yu (mkTab tys sgs h) fn.ntmps (.sl e t) (fn.body.getD .skip)
 | _,_,_ => none
def codeOf (tys:List (Nat × Ty)) (sgs:List (Nat × FSig)) (fn:Func) (h:Hd):Code:=
 match Pq tys sgs fn h with
 | some q => q.2
 | none => fn.body.getD .skip
def nilDat:(ps:List Ty) -> Option (Ty.dens ps)
 | [.sl _ t] => some (([]:List t.den),())
 | _ => none
def NilEq (tys:List (Nat × Ty)) (sgs:List (Nat × FSig)) (fn:Func) (h:Hd):Prop:=
 match Pq tys sgs fn h,nilDat h.ps with
 | some q,some x => ∀ ys,fnD (mkFC tys sgs fn h) h.cs q.1 x ys = fnF (mkFC tys sgs fn h) h.cs q.2 x ys
 | _,_ => True
def nilL (tys:List (Nat × Ty)) (sgs:List (Nat × FSig)) (fn:Func) (h:Hd) (ys:Ty.dens h.cs):Option (mkFC tys sgs fn h).RT:=
 match Pq tys sgs fn h,nilDat h.ps with
 | some q,some x => fnD (mkFC tys sgs fn h) h.cs q.1 x ys
 | _,_ => none
def nilR (tys:List (Nat × Ty)) (sgs:List (Nat × FSig)) (fn:Func) (h:Hd) (ys:Ty.dens h.cs):Option (mkFC tys sgs fn h).RT:=
 match Pq tys sgs fn h,nilDat h.ps with
 | some q,some x => fnF (mkFC tys sgs fn h) h.cs q.2 x ys
 | _,_ => none
theorem Ar {tys:List (Nat × Ty)} {sgs:List (Nat × FSig)} {fn:Func} {h:Hd} (e:nilL tys sgs fn h = nilR tys sgs fn h):NilEq tys sgs fn h:=by
 unfold NilEq
 split
 ·rename_i q x h1 h2
  intro ys
  have:=congrFun e ys
  unfold nilL nilR at this
  rw [h1,h2] at this
  exact this
 ·trivial
def fnOf (tys:List (Nat × Ty)) (sgs:List (Nat × FSig)) (fn:Func) (h:Hd):FSig:=
 ⟨h.ps,h.cs,h.io,h.im,h.R,h.m,fnF (mkFC tys sgs fn h) h.cs (codeOf tys sgs fn h)⟩
def readOk (tys:List (Nat × Ty)) (sgs:List (Nat × FSig)) (fn:Func) (h:Hd):Bool:=
 (match cst (mkFC tys sgs fn h) (codeOf tys sgs fn h) (mkFC tys sgs fn h).ret [] (ent0 h.im h.ps h.cs h.io 0) with
 | some r => r.dead || (match retR (mkFC tys sgs fn h) r.Δ with | some _ => true | none => false)
 | none => false) && (match Pq tys sgs fn h with
 | some q => (match cst (mkFC tys sgs fn h) q.1 (mkFC tys sgs fn h).ret [] (ent0 h.im h.ps h.cs h.io 0) with
  | some r => r.dead
  | none => false)
 | none => true)
theorem fnOf_ok {M:Program} {B:Base} (hm:M.follows .mixedOrders = true) {tys:List (Nat × Ty)} {sgs:List (Nat × FSig)} {f:FuncId} {fn:Func} {h:Hd}
  (hT : LkAll (TnOk M) tys) (hsg : LkAll (SigB B M) sgs) (hf : M.funcs[f]? = some fn) (hname : fn.name ≠ "runtime.NumGoroutine") (hb : fn.body.isSome = true) (hio : ∀ k, h.io = some k → k < h.ps.length) (hq : NilEq tys sgs fn h) : SigB B M f (fnOf tys sgs fn h) := by
 have hb':fn.body = some (fn.body.getD .skip):=by cases h:fn.body with | none => rw [h] at hb; cases hb | some b => rfl
 cases hs:Pq tys sgs fn h with
 | none =>
  have hc:codeOf tys sgs fn h = fn.body.getD .skip:=by unfold codeOf; rw [hs]
  unfold fnOf
  rw [hc]
  exact fnF_ok hm (F:=mkFC tys sgs fn h) (lk_all hT) (lk_all hsg) (fun t ht => by have:=of_decide_eq_false ht; exact this) hio hf hb' rfl rfl hname
 | some q =>
  have hc:codeOf tys sgs fn h = q.2:=by unfold codeOf; rw [hs]
  unfold fnOf
  rw [hc]
  unfold NilEq at hq
  rw [hs] at hq
  obtain ⟨ps,cs,io,im,R,m,dm⟩:=h
  unfold Pq at hs
  simp only at hs
  split at hs
  ·rename_i e t
   exact Agx hm (lk_all hT) (lk_all hsg) hf hb' rfl rfl hname hs hq
  ·cases hs
end Go.Abs
