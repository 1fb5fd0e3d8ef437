/-
  The meta layer, part 14: calls.
-/
import Derived.Test.YtbkefganebmlnaaGreatDoorN13
namespace Go.Abs
open Go.RowKit
set_option linter.unusedVariables false
set_option linter.unusedSimpArgs false
def ArgsR (M:Program) (w:World) (P:Prot) (im:Md):(io:Option Nat) -> (ts:List Ty) -> Ty.dens ts -> List Value -> List Nat -> Prop
 | _,[],_,vs,T => vs = [] /\ T = []
 | some 0,t :: ts,x,vs,T => ∃ v r,vs = v :: r /\ RepV M t w P im x.1 v T /\ RepVs M ts w P .p x.2 r []
 | none,t :: ts,x,vs,T => ∃ v r,vs = v :: r /\ RepV M t w P .p x.1 v [] /\ ArgsR M w P im none ts x.2 r T
 | some (n + 1),t :: ts,x,vs,T => ∃ v r,vs = v :: r /\ RepV M t w P .p x.1 v [] /\ ArgsR M w P im (some n) ts x.2 r T
def IoR (M:Program) (w:World) (P:Prot) (im:Md):(ps:List Ty) -> (io:Option Nat) -> ioT ps io -> List Value -> List Nat -> Prop
 | _,none,_,_,T => T = []
 | [],some _,_,_,T => T = []
 | _ :: _,some _,_,[],_ => False
 | t :: _,some 0,y,v :: _,T => RepV M t w P im y v T
 | _ :: ts,some (n + 1),y,_ :: vs,T => IoR M w P im ts (some n) y vs T
def CapR (M:Program) (w:World) (P:Prot):(ts:List Ty) -> Ty.dens ts -> List Value -> Prop
 | [],_,vs => vs = []
 | t :: ts,x,vs => ∃ v r,vs = v :: r /\ RepV M (.ptr t) w P .p x.1 v [] /\ CapR M w P ts x.2 r
theorem CapR.mono {M:Program} {w w':World} {P P':Prot} (hl:Later w P w' P'):∀ {ts:List Ty} {x:Ty.dens ts} {vs:List Value},CapR M w P ts x vs -> CapR M w' P' ts x vs
 | [],_,_,h => h
 | t :: ts,_,_,⟨v,r,h1,h2,h3⟩ => ⟨v,r,h1,RepV.mono (.ptr t) h2 ⟨hl,by simp,by simp⟩,CapR.mono hl h3⟩
def VarAt (M:Program) (w:World) (P:Prot) (name:String) (vs:List Value):Prop:=
 ∃ g c e,M.globalNamed name = some g /\ w.heap[g]? = some (.cells (List.toArray vs) e c) /\ P g 0
abbrev Base:=List (String × (List Value -> Prop))
def BaseOk (M:Program) (B:Base) (w:World) (P:Prot):Prop:=∀ x ∈ B,∃ vs,x.2 vs /\ VarAt M w P x.1 vs
theorem BaseOk.later {M:Program} {B:Base} {w w':World} {P P':Prot} (h:BaseOk M B w P) (hl:Later w P w' P'):BaseOk M B w' P':=fun x hx => by
 obtain ⟨vs,hvs,g,c,e,h1,h2,h3⟩:=h x hx
 have hlt:g < w.heap.size:=(Array.getElem?_eq_some_iff.1 h2).1
 exact ⟨vs,hvs,g,c,e,h1,by rw [hl.blk g 0 hlt h3]; exact h2,hl.prot g 0 h3⟩
theorem BaseOk.find {M:Program} {B:Base} {w:World} {P:Prot} (h:BaseOk M B w P) {n:String} {q:List Value -> Prop} (hx:(n,q) ∈ B):∃ vs,q vs /\ VarAt M w P n vs:=h _ hx
theorem BaseOk.nil {M:Program} {w:World} {P:Prot}:BaseOk M [] w P:=fun _ hx => by cases hx
def SigR (M:Program) (w0:World) (P0:Prot) (f:FuncId) (s:FSig):Prop:=Has M f /\
 ∀ w P xs ys vs caps Ti y,Later w0 P0 w P -> There w P -> ArgsR M w P s.im s.io s.ps xs vs Ti -> Ti.Nodup -> (∀ b ∈ Ti,b < w.heap.size /\ ∀ o,¬ P b o) -> CapR M w P s.cs ys caps -> s.f xs ys = some y ->
  Calls M f (List.toArray (vs ++ caps)) w fun e w' => ∃ u P' Tr Tq,e = .returned u /\ PExt Ti w P w' P' /\ RepV M s.r w' P' s.m y.1 u Tr /\ IoR M w' P' s.im s.ps s.io y.2 vs Tq /\
   (Tr ++ Tq).Nodup /\ ∀ b ∈ Tr ++ Tq,b ∈ Ti \/ (w.heap.size <= b /\ b < w'.heap.size)
def SigB (B:Base) (M:Program) (f:FuncId) (s:FSig):Prop:=Has M f /\
 ∀ w P xs ys vs caps Ti y,BaseOk M B w P -> There w P -> ArgsR M w P s.im s.io s.ps xs vs Ti -> Ti.Nodup -> (∀ b ∈ Ti,b < w.heap.size /\ ∀ o,¬ P b o) -> CapR M w P s.cs ys caps -> s.f xs ys = some y ->
  Calls M f (List.toArray (vs ++ caps)) w fun e w' => ∃ u P' Tr Tq,e = .returned u /\ PExt Ti w P w' P' /\ RepV M s.r w' P' s.m y.1 u Tr /\ IoR M w' P' s.im s.ps s.io y.2 vs Tq /\
   (Tr ++ Tq).Nodup /\ ∀ b ∈ Tr ++ Tq,b ∈ Ti \/ (w.heap.size <= b /\ b < w'.heap.size)
abbrev SigOk (M:Program) (f:FuncId) (s:FSig):Prop:=SigB [] M f s
theorem SigB.at {B:Base} {M:Program} {w0:World} {P0:Prot} {f:FuncId} {s:FSig} (h:SigB B M f s) (hb:BaseOk M B w0 P0):SigR M w0 P0 f s:=
 ⟨h.1,fun w P xs ys vs caps Ti y hl => h.2 w P xs ys vs caps Ti y (hb.later hl)⟩
theorem PExt.trans {F F':List Nat} {w w1 w2:World} {P P1 P2:Prot} (h:PExt F w P w1 P1) (k:PExt F' w1 P1 w2 P2) (hF:∀ b ∈ F',w.heap.size <= b \/ b ∈ F):PExt F w P w2 P2:=by
 refine ⟨k.os.trans h.os,k.tape.trans h.tape,k.output.trans h.output,Nat.le_trans h.size k.size,fun b hb hn => ?_,h.free,fun b o hp => k.prot b o (h.prot b o hp),fun b o hp => ?_,k.there⟩
 ·rw [k.block b (Nat.lt_of_lt_of_le hb h.size) (fun hm => ?_)]
  ·exact h.block b hb hn
  ·rcases hF b hm with h' | h'
   ·omega
   ·exact hn h'
 ·rcases k.old b o hp with hp | hp | hp
  ·exact h.old b o hp
  ·exact .inr (.inl (Nat.le_trans h.size hp))
  ·rcases hF b hp with h' | h'
   ·exact .inr (.inl h')
   ·exact .inr (.inr h')
theorem PExt.keeps {F:List Nat} {w w1:World} {P P1:Prot} (h:PExt F w P w1 P1) (S:List Nat) (hS:∀ b ∈ S,b < w.heap.size /\ b ∉ F):Keeps w P w1 P1 S:=by
 refine ⟨⟨h.size,h.prot,fun b o v hp hv => ?_,fun b o hlt hp => ?_⟩,fun b hb => .of (h.block b (hS b hb).1 (hS b hb).2),fun b hb o hp => ?_⟩
 ·have hlt:b < w.heap.size:=World.block_lt_of_cell? w ⟨b,o,none⟩ hv
  rw [World.cell?_of_block (h.block b hlt fun hm => h.free b hm o hp)]
  exact hv
 ·exact h.block b hlt fun hm => h.free b hm o hp
 ·rcases h.old b o hp with hp | hp | hp
  ·exact hp
  ·have:=(hS b hb).1; omega
  ·exact absurd hp (hS b hb).2
theorem PExt.later {F:List Nat} {w w1:World} {P P1:Prot} (h:PExt F w P w1 P1):Later w P w1 P1:=(h.keeps [] (by simp)).later
theorem RepL.monoR {α:Type} {R R':α -> List Value -> List Nat -> Prop} (k:∀ x cs T,R x cs T -> R' x cs T):∀ {xs:List α} {cs:List Value} {T:List Nat},RepL R xs cs T -> RepL R' xs cs T
 | [],_,_,h => h
 | _ :: _,_,_,⟨c1,c2,T1,T2,h1,h2,h3,h4⟩ => ⟨c1,c2,T1,T2,h1,h2,k _ _ _ h3,RepL.monoR k h4⟩
mutual
theorem RepC.bare {M:Program} {w:World} {P P':Prot} (hP:∀ b o,P' b o -> P b o):(t:Ty) -> ∀ {m:Md} {x:t.den} {cs:List Value} {T:List Nat},RepC M t w P m x cs T -> t.fresh m = true -> RepC M t w P' m x cs T
 | .int k,_,_,_,_,h,_ => by simpa only [RepC] using h
 | .bool,_,_,_,_,h,_ => by simpa only [RepC] using h
 | .str,_,_,_,_,h,_ => by simpa only [RepC] using h
 | .fn _ _,_,_,_,_,_,hf => by simp [Ty.fresh] at hf
 | .tup _,_,_,_,_,h,_ => by simp only [RepC] at h
 | .st ts,_,_,_,_,h,hf => by
  simp only [RepC] at h ⊢
  exact RepCs.bare hP ts h (by simpa [Ty.fresh] using hf)
 | .sl e t,m,_,_,_,h,hf => by
  cases m <;> simp only [Ty.fresh,Bool.false_eq_true] at hf
  simp only [RepC] at h ⊢
  obtain ⟨v,hv,h⟩:=h
  refine ⟨v,hv,?_⟩
  rcases h with h | ⟨b,cap,cells,Tc,h1,h2,h3,h4,h5,h6,h7,h8,h9⟩
  ·exact .inl h
  ·exact .inr ⟨b,cap,cells,Tc,h1,h2,h3,h4,RepL.monoR (fun x cs T r => RepC.bare hP t r hf) h5,h6,h7,h8,fun o ho => h9 o (hP b o ho)⟩
 | .ptr t,m,_,_,_,h,hf => by
  cases m <;> simp only [Ty.fresh,Bool.false_eq_true] at hf
  simp only [RepC] at h ⊢
  obtain ⟨v,hv,b,cells,Tc,e,h1,h2,h3,h4,h5,h6⟩:=h
  exact ⟨v,hv,b,cells,Tc,e,h1,h2,RepC.bare hP t h3 hf,h4,h5,fun o ho => h6 o (hP b o ho)⟩
theorem RepCs.bare {M:Program} {w:World} {P P':Prot} (hP:∀ b o,P' b o -> P b o):(ts:List Ty) -> ∀ {m:Md} {x:Ty.dens ts} {cs:List Value} {T:List Nat},RepCs M ts w P m x cs T -> Ty.freshs ts m = true -> RepCs M ts w P' m x cs T
 | [],_,_,_,_,h,_ => by simpa only [RepCs] using h
 | t :: ts,_,_,_,_,h,hf => by
  simp only [RepCs] at h ⊢
  simp only [Ty.freshs,Bool.and_eq_true] at hf
  obtain ⟨c1,c2,T1,T2,h1,h2,h3,h4⟩:=h
  exact ⟨c1,c2,T1,T2,h1,h2,RepC.bare hP t h3 hf.1,RepCs.bare hP ts h4 hf.2⟩
end
mutual
theorem RepV.bare {M:Program} {w:World} {P P':Prot} (hP:∀ b o,P' b o -> P b o):(t:Ty) -> ∀ {m:Md} {x:t.den} {v:Value} {T:List Nat},RepV M t w P m x v T -> t.fresh m = true -> RepV M t w P' m x v T
 | .tup ts,_,_,_,_,h,hf => by
  simp only [RepV] at h ⊢
  obtain ⟨vs,hv,h⟩:=h
  exact ⟨vs,hv,RepVs.bare hP ts h (by simpa [Ty.fresh] using hf)⟩
 | .int k,_,_,_,_,h,_ => by simpa only [RepV] using h
 | .bool,_,_,_,_,h,_ => by simpa only [RepV] using h
 | .str,_,_,_,_,h,_ => by simpa only [RepV] using h
 | .fn _ _,_,_,_,_,_,hf => by simp [Ty.fresh] at hf
 | .st ts,_,_,_,_,h,hf => by
  obtain ⟨h1,h2⟩:=Bb (.st ts) rfl h
  exact h2 ▸ Bh _ (RepC.bare hP _ h1 hf)
 | .sl e t,_,_,_,_,h,hf => by
  obtain ⟨h1,h2⟩:=Bb (.sl e t) rfl h
  exact h2 ▸ Bh _ (RepC.bare hP _ h1 hf)
 | .ptr t,_,_,_,_,h,hf => by
  obtain ⟨h1,h2⟩:=Bb (.ptr t) rfl h
  exact h2 ▸ Bh _ (RepC.bare hP _ h1 hf)
theorem RepVs.bare {M:Program} {w:World} {P P':Prot} (hP:∀ b o,P' b o -> P b o):(ts:List Ty) -> ∀ {m:Md} {x:Ty.dens ts} {vs:List Value} {T:List Nat},RepVs M ts w P m x vs T -> Ty.freshs ts m = true -> RepVs M ts w P' m x vs T
 | [],_,_,_,_,h,_ => by simpa only [RepVs] using h
 | t :: ts,_,_,_,_,h,hf => by
  simp only [RepVs] at h ⊢
  simp only [Ty.freshs,Bool.and_eq_true] at hf
  obtain ⟨v,r,T1,T2,h1,h2,h3,h4⟩:=h
  exact ⟨v,r,T1,T2,h1,h2,RepV.bare hP t h3 hf.1,RepVs.bare hP ts h4 hf.2⟩
end
def Prot.sub (P:Prot) (D:List Nat):Prot:=fun b o => P b o /\ b ∉ D
section
variable {C:Cx} {fr:Fr} {a:Act} {w:World} {P:Prot} {T:Nat -> List Nat}
theorem Sim.free (h:Sim C fr a w P T) {i:Nat} {t:Ty} {m:Md} {f:Unit -> t.den} (hc:t.cell = true) (hi:fr i = ⟨.val t m,f⟩):∀ b ∈ T i,∀ o,¬ P b o:=by
 obtain ⟨_,hr⟩:=h.root hi
 exact RepC.free t (Bb t hc hr).1
theorem lent_ok {w w':World} {P P1:Prot} {F D:List Nat} (hD:∀ b ∈ D,∀ o,¬ P b o) (hDw:∀ b ∈ D,b < w.heap.size) (hp:PExt F w (P.add w D) w' P1):PExt F w P w' (P1.sub D):=by
 refine ⟨hp.os,hp.tape,hp.output,hp.size,hp.block,fun k hk o ho => hp.free k hk o (.inl ho),fun b o ho => ⟨hp.prot b o (.inl ho),fun hm => hD b hm o ho⟩,fun b o ho => ?_,fun b o ho => hp.there b o ho.1⟩
 rcases hp.old b o ho.1 with h' | h' | h'
 ·rcases h' with h' | ⟨h',_⟩
  ·exact .inl h'
  ·exact absurd h' ho.2
 ·exact .inr (.inl h')
 ·exact .inr (.inr h')
theorem arg0_ok (h:Sim C fr a w P T) {o:Operand} {t:Ty} {A:Arg Unit t} (hs:sArg0 fr o t = some A) {y:t.den} (hy:A.f () = some y) {D:List Nat} (hD:∀ i ∈ A.lend,∀ b ∈ T i,b ∈ D) :
  RepV C.M t w (P.add w D) .p y (a.eval o) []:=by
 have fz:∀ {t':Ty} {m:Md} {x:t'.den} {v:Value} {Tx:List Nat},RepV C.M t' w P m x v Tx -> t'.nh m = true -> (∀ b ∈ Tx,b ∈ D) -> RepV C.M t' w (P.add w D) .p x v []:=fun hr hn hb =>
  RepV.freeze (Later.add w P D) _ hr hn fun b hb' o v hv => .inr ⟨hb b hb',v,hv⟩
 unfold sArg0 at hs
 split at hs
 ·rename_i t' m f hx
  split at hs
  ·rename_i k _
   subst k
   split at hs
   ·rename_i hf
    cases hs
    cases hy
    exact RepV.mono _ (opx_val h hx hf) (Keeps.add (by simp))
   ·split at hs
    ·rename_i i hi
     split at hs
     ·rename_i hn
      cases hs
      cases hy
      obtain ⟨Tx,hr,hT⟩:=opx_rep h o
      rw [hx] at hr
      refine fz hr hn fun b hb => ?_
      rcases hT i hi with rfl | ⟨rfl,_⟩
      ·exact hD i (by simp) b hb
      ·simp at hb
     ·cases hs
    ·cases hs
  ·cases hs
 ·split at hs
  ·rename_i p hp
   split at hs
   ·rename_i k e hk _
    have e:=e
    obtain ⟨i,t0,q,t',is⟩:=p
    simp only at e
    subst e
    split at hs
    ·rename_i hn
     cases hs
     obtain ⟨m,f,get,set,rfl,hroot,hsub,hown,hcell0⟩:=look_eq hk
     obtain ⟨L,cs,h4,h1,h2,h3⟩:=vlu_rep h hp hroot hcell0
     obtain ⟨hin,cs',T1,T',T2,at_,hv',F,rfl,hLi⟩:=h.focus hroot hsub hown hcell0 hy h1
     have hrc:=F.rep
     have hcs:cs' = cs:=Loc.is_unique hLi h2 (by rw [(RepC.length _ hrc).1,h3])
     subst hcs
     rw [h4]
     exact fz (Bh _ hrc) hn fun b hb => hD i (by simp) b (by rw [F.split]; simp [hb])
    ·cases hs
   ·cases hs
  ·cases hs
theorem ArgsR.of_none {M:Program} {w:World} {P:Prot} {im:Md}:∀ {ts:List Ty} {x:Ty.dens ts} {vs:List Value},RepVs M ts w P .p x vs [] -> ArgsR M w P im none ts x vs []
 | [],_,_,h => by simp only [RepVs] at h; exact ⟨h.1,rfl⟩
 | t :: ts,_,_,h => by
  simp only [RepVs,Md.hd,Md.tl] at h
  obtain ⟨v,r,T1,T2,h1,h2,h3,h4⟩:=h
  have:=List.append_eq_nil_iff.1 h2.symm
  obtain ⟨rfl,rfl⟩:=this
  exact ⟨v,r,h1,h3,ArgsR.of_none h4⟩
theorem func_ok {M:Program} {w0 w:World} {P0 P:Prot} {f:FuncId} {ps:List Ty} {im:Md} {r:Ty} {m:Md} {F:Ty.dens ps -> Unit -> Option (r.den × Unit)} (hsg:SigR M w0 P0 f ⟨ps,[],none,im,r,m,F⟩) (hl0:Later w0 P0 w P) (hnh:r.nh m = true) :
  RepV M (.fn ps r) w P .p (fun x => (F x ()).bind fun y => some y.1) (.func (.func f) #[] #[]) []:=by
 obtain ⟨hf,hcall⟩:=hsg
 simp only [RepV]
 refine ⟨trivial,f,#[],#[],rfl,hf,fun w' P' x vs y hl ht hA hy => ?_⟩
 obtain ⟨y2,hy2,hy⟩:=Option.bind_eq_some_iff.1 hy
 cases hy
 have hC:=hcall w' P' x () vs [] [] y2 (hl0.trans hl) ht (ArgsR.of_none hA) List.nodup_nil (by simp) rfl hy2
 have e1:List.toArray (vs ++ []) = #[] ++ vs.toArray ++ #[]:=by
  apply Array.toList_inj.1
  simp
 rw [e1] at hC
 refine hC.mono ?_
 rintro e w'' ⟨u,P1,Tr,Tq,rfl,hp,hrep,hio,hnd,hsub⟩
 have hio:Tq = []:=by
  clear hcall hC
  cases ps <;> exact hio
 subst hio
 refine ⟨u,P1.add w'' Tr,rfl,hp.add fun b hb => ?_,RepV.freeze (Later.add w'' P1 Tr) r hrep hnh fun b hb o v hv => .inr ⟨hb,v,hv⟩⟩
 rcases hsub b (by simp [hb]) with h' | h'
 ·simp at h'
 ·exact .inl h'.1
theorem arg1_ok (h:Sim C fr a w P T) {G:FuncId -> Option FSig} (hG:∀ f s,G f = some s -> SigR C.M C.w0 C.P0 f s) {o:Operand} {t:Ty} {A:Arg Unit t} (hs:sArg1 G fr o t = some A) {y:t.den} (hy:A.f () = some y) {D:List Nat} (hD:∀ i ∈ A.lend,∀ b ∈ T i,b ∈ D) :
  RepV C.M t w (P.add w D) .p y (a.eval o) []:=by
 unfold sArg1 at hs
 split at hs
 ·rename_i f
  unfold sFun at hs
  split at hs
  ·rename_i ps im r m F hg
   split at hs
   ·rename_i k _
    subst k
    split at hs
    ·rename_i hn
     cases hs
     cases hy
     exact func_ok (hG f _ hg) (h.pext.later.trans (Later.add w P D)) hn
    ·cases hs
   ·cases hs
  ·cases hs
 ·unfold sNilArg at hs
  split at hs
  ·rename_i e u
   cases hs
   cases hy
   simp only [RepV,Act.eval]
   exact ⟨rfl,.inl ⟨rfl,none,rfl⟩⟩
  ·cases hs
 ·exact arg0_ok h hs hy hD
theorem Sh (h:Sim C fr a w P T) {G:FuncId -> Option FSig} (hG:∀ f s,G f = some s -> SigR C.M C.w0 C.P0 f s) {im:Md}:∀ {xs:List Operand} {ts:List Ty} {r:Args Unit ts} {i:Option (Io Unit)},sArgs G fr im none xs ts = some (r,i) -> ∀ {x:Ty.dens ts},r.f () = some x ->
  ∀ {D:List Nat},(∀ i ∈ r.lend,∀ b ∈ T i,b ∈ D) -> i = none /\ RepVs C.M ts w (P.add w D) .p x (xs.map a.eval) []
 | [],[],r,i,hs,x,hx,D,hD => by
  simp only [sArgs,Option.some.injEq,Prod.mk.injEq] at hs
  exact ⟨hs.2.symm,by simp [RepVs]⟩
 | [],_ :: _,r,i,hs,x,hx,D,hD => by simp [sArgs] at hs
 | _ :: _,[],r,i,hs,x,hx,D,hD => by simp [sArgs] at hs
 | o :: xs,t :: ts,r,i,hs,x,hx,D,hD => by
  simp only [sArgs] at hs
  split at hs
  ·rename_i A r' i' hA hr'
   simp only [Option.some.injEq,Prod.mk.injEq] at hs
   obtain ⟨rfl,rfl⟩:=hs
   have hx:(A.f ()).bind (fun y => (r'.f ()).bind fun z => some ((y,z):Ty.dens (t :: ts))) = some x:=hx
   cases h1:A.f () with
   | none => rw [h1] at hx; cases hx
   | some u =>
    rw [h1] at hx
    cases h2:r'.f () with
    | none => rw [h2] at hx; cases hx
    | some v =>
     rw [h2] at hx
     cases hx
     obtain ⟨rfl,hr⟩:=Sh h hG hr' h2 (D:=D) fun j hj => hD j (List.mem_append_right _ hj)
     refine ⟨rfl,?_⟩
     simp only [List.map_cons,RepVs,Md.hd,Md.tl]
     exact ⟨_,_,[],[],rfl,rfl,arg1_ok h hG hA h1 fun j hj => hD j (List.mem_append_left _ hj),hr⟩
  ·cases hs
theorem Aep {t:Ty} {back:t.den -> t.den}:∀ {s:Option (PLift (t = t))},castT s = some back -> ∀ y,back y = y
 | some ⟨k⟩,h,y => by have:=Option.some.inj h; rw [<- this]
 | none,h,y => by cases h
theorem Abx {M:Program} {w:World} {P:Prot} {im:Md} {t:Ty} {ts:List Ty} {back:ioT (t :: ts) (some 0) -> t.den} (hb:ioBack (t :: ts) (some 0) t = some back) {y:ioT (t :: ts) (some 0)} {v:Value} {vs:List Value} {T:List Nat}
  (hI:IoR M w P im (t :: ts) (some 0) y (v :: vs) T):RepV M t w P im (back y) v T:=by
 have hb':castT (Ty.same t t) = some back:=hb
 have hI':RepV M t w P im y v T:=hI
 rw [Aep hb' y]
 exact hI'
theorem args_ok (h:Sim C fr a w P T) {G:FuncId -> Option FSig} (hG:∀ f s,G f = some s -> SigR C.M C.w0 C.P0 f s) {im:Md}:∀ {n:Nat} {xs:List Operand} {ts:List Ty} {r:Args Unit ts} {i:Option (Io Unit)},sArgs G fr im (some n) xs ts = some (r,i) -> ∀ {x:Ty.dens ts},r.f () = some x ->
  ∀ {D:List Nat},(∀ i ∈ r.lend,∀ b ∈ T i,b ∈ D) -> (i = none) \/
   ∃ (p:Plc Unit) (o:Operand) (k:Lk Unit p.t) (y:p.t.den),i = some ⟨p.t,k⟩ /\ vluOf o (opx fr o) = some p /\ look fr p = some k /\ k.content () = some y /\ k.m.at k.q = im /\ p.t.nh im = true /\
    (∀ Tk,RepV C.M p.t w (P.add w D) im y (a.eval o) Tk -> ArgsR C.M w (P.add w D) im (some n) ts x (xs.map a.eval) Tk) /\
    ∀ back,ioBack ts (some n) p.t = some back -> ∀ w' P' y' Tq,IoR C.M w' P' im ts (some n) y' (xs.map a.eval) Tq -> RepV C.M p.t w' P' im (back y') (a.eval o) Tq
 | n,[],[],r,i,hs,x,hx,D,hD => by
  simp only [sArgs,Option.some.injEq,Prod.mk.injEq] at hs
  exact .inl hs.2.symm
 | n,[],_ :: _,r,i,hs,x,hx,D,hD => by simp [sArgs] at hs
 | n,_ :: _,[],r,i,hs,x,hx,D,hD => by cases n <;> simp [sArgs] at hs
 | 0,o :: xs,t :: ts,r,i,hs,x,hx,D,hD => by
  simp only [sArgs] at hs
  split at hs
  ·rename_i p hp
   split at hs
   ·rename_i e k r' i' _ hk hr'
    split at hs
    ·rename_i hc
     simp only [Option.some.injEq,Prod.mk.injEq] at hs
     obtain ⟨rfl,rfl⟩:=hs
     obtain ⟨pi,t0,q,t',is⟩:=p
     simp only at e
     subst e
     have hx:(k.content ()).bind (fun y => (r'.f ()).bind fun z => some ((y,z):Ty.dens (t' :: ts))) = some x:=hx
     cases h1:k.content () with
     | none => rw [h1] at hx; cases hx
     | some u =>
      rw [h1] at hx
      cases h2:r'.f () with
      | none => rw [h2] at hx; cases hx
      | some v =>
       rw [h2] at hx
       cases hx
       obtain ⟨rfl,hr⟩:=Sh h hG hr' h2 (D:=D) hD
       refine .inr ⟨⟨pi,t0,q,t',is⟩,o,k,u,rfl,hp,hk,h1,hc.1,hc.2,fun Tk hT => ?_,fun back hb w' P' y' Tq hI => ?_⟩
       ·exact ⟨_,_,rfl,hT,hr⟩
       ·exact Abx hb hI
    ·cases hs
   ·cases hs
  ·cases hs
 | n + 1,o :: xs,t :: ts,r,i,hs,x,hx,D,hD => by
  simp only [sArgs] at hs
  split at hs
  ·rename_i A r' i' hA hr'
   simp only [Option.some.injEq,Prod.mk.injEq] at hs
   obtain ⟨rfl,rfl⟩:=hs
   have hx:(A.f ()).bind (fun y => (r'.f ()).bind fun z => some ((y,z):Ty.dens (t :: ts))) = some x:=hx
   cases h1:A.f () with
   | none => rw [h1] at hx; cases hx
   | some u =>
    rw [h1] at hx
    cases h2:r'.f () with
    | none => rw [h2] at hx; cases hx
    | some v =>
     rw [h2] at hx
     cases hx
     have ih:=args_ok h hG hr' h2 (D:=D) (fun j hj => hD j (List.mem_append_right _ hj))
     rcases ih with ih | ih
     ·exact .inl ih
     ·obtain ⟨p,o',k,y,e1,e2,e3,e4,e5,e6,e7,e8⟩:=ih
      refine .inr ⟨p,o',k,y,e1,e2,e3,e4,e5,e6,?_,?_⟩
      ·intro Tk hT
       exact ⟨_,_,rfl,arg1_ok h hG hA h1 fun j hj => hD j (List.mem_append_left _ hj),e7 Tk hT⟩
      ·intro back hb w' P' y' Tq hI
       have hb':ioBack ts (some n) p.t = some back:=hb
       have hI':IoR C.M w' P' im ts (some n) y' (xs.map a.eval) Tq:=hI
       exact e8 back hb' w' P' y' Tq hI'
  ·cases hs
end
end Go.Abs
