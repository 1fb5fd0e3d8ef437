/-
  The meta layer, part 18: a region of operations, in the order of the text; frames that say less.
-/
import Derived.Test.YtbkefganebmlnaaGreatDoorN17
namespace Go.Abs
open Go.RowKit
set_option linter.unusedVariables false
set_option linter.unusedSimpArgs false
def kbOf {S:Type} (g:Nat -> Ex S):Operand -> Option Bool
 | .tmp t => if isG t then none else match (g t).1 with | .kb b => some b | _ => none
 | .const (.bool b) => some b
 | _ => none
def isTup:Ent -> Bool | .val (.tup _) _ => true | _ => false
def ptrHint (Tb:Tab) (d:Option Nat):Bool:=match d with | some d => (Tb.dm (3000000000 + d)).isSome | none => false
def sMoveP {S:Type} (g:Nat -> Ex S) (x:Operand):Option (Res S):=match slotOf x,opx g x with
 | some i,⟨.val (.ptr t) (.u _),_⟩ => pureR (.av i (.ptr t) [] (.ptr t)) fun _ => []
 | _,_ => none
def xop0 {S:Type} (Tb:Tab) (ds:List Nat) (g:Nat -> Ex S) (o:Oper):Option (Res S):=
 match o.op with
 | .pick c x y => match kbOf g c with
  | some b => match kbOf g (if b then x else y) with
   | some b' => pureR (.kb b') fun _ => ()
   | none => if isTup (opx g (if b then x else y)).1 then none else sMove ds Tb.pin g (if b then x else y)
  | none => none
 | .move x => match kbOf g x with
  | some b => pureR (.kb b) fun _ => ()
  | none => if ptrHint Tb o.dst then sMoveP g x else sop Tb ds g o
 | _ => sop Tb ds g o
def runs {S:Type} (ops:Array Oper) (g:Nat -> Ex S) (o:Oper):Option Bool:=
 match o.guard with
 | none => some true
 | some (j,b) => match (ops[j]?).bind (·.dst) with
  | some d => if isG d then none else match (g d).1 with
   | .kb c => some (c == b)
   | .und => some false
   | _ => none
  | none => none
section
variable {C:Cx} {fr:Fr} {a:Act} {w:World} {P:Prot} {T:Nat -> List Nat}
theorem Vw (h:Sim C fr a w P T) {c:Operand} {b:Bool} (hk:kbOf fr c = some b):a.eval c = .bool b:=by
 cases c with
 | tmp t =>
  simp only [kbOf] at hk
  split at hk
  ·cases hk
  rename_i hg
  split at hk
  ·rename_i b' he
   cases hk
   have hr:=h.rep t
   rw [Cx.at_n (isG_no.1 (by simpa using hg))] at hr
   generalize fr t = x at hr he
   obtain ⟨e,f⟩:=x
   simp only at he
   subst he
   exact hr.2
  ·cases hk
 | const v =>
  cases v <;> simp [kbOf] at hk
  subst hk
  rfl
 | global _ => simp [kbOf] at hk
 | func _ => simp [kbOf] at hk
theorem Ahy {Q:Exit -> Act -> World -> Prop} (h:Sim C fr a w P T) {o:Oper} {x:Operand} (ho:∀ v,a.eval x = v -> (execOp a.eval o).run C.M w = .ok (.value v) w)
  {r:Res Unit} {pin:Nat -> Bool} (hs:sMoveP fr x = some r) {ds:List Nat} (hc:OpC C pin ds fr o.dst r) {z:r.X}:Goal C fr a w o Q r z:=by
 unfold sMoveP at hs
 split at hs
 ·rename_i i t c f hsl hx
  have hx':=Mv hsl
  have hfr:fr i = ⟨.val (.ptr t) (.u c),f⟩:=by
   subst hx'
   exact opx_at hx (by simp) (fun e => by cases e)
  cases hs
  obtain ⟨L,cs,h1,h2,h3,h4⟩:=vlu_rep h (x:=x) (p:=⟨i,.ptr t,[],.ptr t,fun _ => []⟩) (by rw [hx]; simp only [vluOf,hsl]) hfr rfl
  exact h.plain hc (ho _ rfl) rfl ⟨rfl,L,cs,h2,h3,h4,h1⟩
 ·cases hs
theorem Ya {Q:Exit -> Act -> World -> Prop} {Tb:Tab} (hT:TabOk C.M Tb) (hsg:∀ f s,Tb.sg f = some s -> SigR C.M C.w0 C.P0 f s) (h:Sim C fr a w P T) {o:Oper} {r:Res Unit} {dl ds:List Nat}
  (hs:xop0 Tb dl fr o = some r) (hc:OpC C Tb.pin ds fr o.dst r) {y:r.X} (hy:r.run () = some y):Goal C fr a w o Q r y:=by
 unfold xop0 at hs
 split at hs
 ·rename_i c x z ho
  split at hs
  ·rename_i b hb
   have hcv:=Vw h hb
   generalize hq:(if b then x else z) = q at hs
   have hex:∀ v,a.eval q = v -> (execOp a.eval o).run C.M w = .ok (.value v) w:=fun v hv => by
    simp only [execOp,ho,hcv,asBool]
    subst hq
    cases b <;> simpa using hv
   split at hs
   ·rename_i b' hb'
    cases hs
    exact h.plain hc (hex _ rfl) rfl ⟨rfl,Vw h hb'⟩
   ·split at hs
    ·cases hs
    ·rename_i htup
     exact op_move h (x:=q) hex hs (fun ts m f hx => absurd (by rw [hx]; rfl) htup) hc
  ·cases hs
 ·rename_i x ho
  split at hs
  ·rename_i b hb
   cases hs
   refine h.plain hc (v:=.bool b) ?_ rfl ⟨rfl,rfl⟩
   simp only [execOp,ho,Vw h hb]
   rfl
  split at hs
  ·refine Ahy h (x:=x) (fun v hv => ?_) hs hc
   simp only [execOp,ho,hv]
   rfl
  ·exact Abb hT hsg h hs hc hy
 ·exact Abb hT hsg h hs hc hy
theorem Vn (h:Sim C fr a w P T) {ops:Array Oper} {o:Oper} {b:Bool} (hr:runs ops fr o = some b):Region.wanted o (yielded ops a.tmps) = b:=by
 unfold runs at hr
 unfold Region.wanted
 cases hg:o.guard with
 | none => rw [hg] at hr; cases hr; rfl
 | some q =>
  obtain ⟨j,want⟩:=q
  rw [hg] at hr
  simp only at hr ⊢
  cases hd:(ops[j]?).bind (·.dst) with
  | none => rw [hd] at hr; cases hr
  | some d =>
   rw [hd] at hr
   simp only at hr
   have hy:yielded ops a.tmps j = match a.tmps[d]? with | some (.bool b) => some b | _ => none:=by
    unfold yielded
    rw [hd]
    rfl
   split at hr
   ·cases hr
   rename_i hg
   have hlt:d < gB:=isG_no.1 (by simpa using hg)
   have hin:(fr d).1 ≠ .non -> d < C.n:=fun hn => Ahm (h.lt_of hn) hlt
   have hrep:=h.rep d
   rw [Cx.at_n hlt] at hrep
   split at hr
   ·rename_i c he
    cases hr
    have hdn:=hin (by rw [he]; simp)
    generalize fr d = x at hrep he
    obtain ⟨e,f⟩:=x
    simp only at he
    subst he
    have hv:=hrep.2
    have hsz:d < a.tmps.size:=by rw [h.size]; exact hdn
    have:a.tmps[d]? = some (.bool c):=by
     unfold Act.at at hv
     rw [Array.getElem?_eq_getElem hsz]
     congr 1
     simpa [Array.getD,hsz] using hv
    rw [hy,this]
    cases c <;> cases want <;> rfl
   ·rename_i he
    cases hr
    have hdn:=hin (by rw [he]; simp)
    generalize fr d = x at hrep he
    obtain ⟨e,f⟩:=x
    simp only at he
    subst he
    have hv:=hrep.2
    have hsz:d < a.tmps.size:=by rw [h.size]; exact hdn
    have:a.tmps[d]? = some undef:=by
     unfold Act.at at hv
     rw [Array.getElem?_eq_getElem hsz]
     congr 1
     simpa [Array.getD,hsz] using hv
    rw [hy,this]
    rfl
   ·cases hr
end
def Wk (x y:Ex Unit):Prop:=(x.1 = .non -> y = Ex.non) /\ (y = x \/ ((∀ i,y.1.onT i = false) /\ ∀ (M:Program) (w:World) (P:Prot) (tm:Nat -> Value) (Tf:Nat -> List Nat) (v:Value) (T:List Nat),T.Nodup -> RepE M w P tm Tf x v T ->
 ∃ T' D,List.Sublist T' T /\ (∀ c ∈ D,c ∈ T /\ c ∉ T') /\ RepE M w (P.add w D) tm Tf y v T'))
theorem Wk.refl (x:Ex Unit):Wk x x:=by
 refine ⟨fun h => ?_,.inl rfl⟩
 obtain ⟨e,f⟩:=x
 cases h
 rfl
theorem Wk.non (x:Ex Unit):Wk x Ex.non:=⟨fun _ => rfl,.inr ⟨fun _ => rfl,fun _ _ _ _ _ _ T _ _ => ⟨[],[],List.nil_sublist _,by simp,rfl⟩⟩⟩
theorem Prot.add_add (P:Prot) (w:World) (D D':List Nat):(P.add w D).add w D' = P.add w (D ++ D'):=by
 funext b o
 simp only [Prot.add,List.mem_append,eq_iff_iff]
 constructor
 ·rintro ((h | ⟨h,k⟩) | ⟨h,k⟩)
  ·exact .inl h
  ·exact .inr ⟨.inl h,k⟩
  ·exact .inr ⟨.inr h,k⟩
 ·rintro (h | ⟨h | h,k⟩)
  ·exact .inl (.inl h)
  ·exact .inl (.inr ⟨h,k⟩)
  ·exact .inr ⟨h,k⟩
theorem Wk.trans {x y z:Ex Unit} (h:Wk x y) (k:Wk y z):Wk x z:=by
 refine ⟨fun hx => k.1 (by rw [h.1 hx]; rfl),?_⟩
 rcases h.2 with rfl | ⟨h1,h2⟩
 ·exact k.2
 ·rcases k.2 with rfl | ⟨k1,k2⟩
  ·exact .inr ⟨h1,h2⟩
  ·refine .inr ⟨k1,fun M w P tm Tf v T hn hr => ?_⟩
   obtain ⟨T1,D1,s1,d1,r1⟩:=h2 M w P tm Tf v T hn hr
   obtain ⟨T2,D2,s2,d2,r2⟩:=k2 M w _ tm Tf v T1 (hn.sublist s1) r1
   refine ⟨T2,D1 ++ D2,s2.trans s1,fun c hc => ?_,by rw [<- Prot.add_add]; exact r2⟩
   rcases List.mem_append.1 hc with hc | hc
   ·exact ⟨(d1 c hc).1,fun hm => (d1 c hc).2 (s2.subset hm)⟩
   ·exact ⟨s1.subset (d2 c hc).1,(d2 c hc).2⟩
structure FWk (fr fr':Fr):Prop where
 wk:∀ t,Wk (fr t) (fr' t)
 hang:∀ t i,(fr' t).1.onT i = true -> fr' i = fr i
theorem FWk.refl (fr:Fr):FWk fr fr:=⟨fun _ => .refl _,fun _ _ _ => rfl⟩
theorem FWk.trans {x y z:Fr} (h:FWk x y) (k:FWk y z):FWk x z:=by
 refine ⟨fun t => (h.wk t).trans (k.wk t),fun t i hi => ?_⟩
 have h1:=k.hang t i hi
 rcases (k.wk t).2 with e | ⟨e,_⟩
 ·rw [e] at hi
  exact h1.trans (h.hang t i hi)
 ·rw [e i] at hi; cases hi
section
variable {C:Cx} {fr:Fr} {a:Act} {w:World} {P:Prot} {T:Nat -> List Nat}
theorem Sim.weak (h:Sim C fr a w P T) {fr':Fr} (hw:FWk fr fr'):∃ P' T',Sim C fr' a w P' T':=by
 have hT:∀ t,∃ q:List Nat × List Nat,List.Sublist q.1 (T t) /\ (∀ c ∈ q.2,c ∈ T t /\ c ∉ q.1) /\ (fr' t = fr t -> q.1 = T t /\ q.2 = []) /\
   (fr' t ≠ fr t -> (∀ i,(fr' t).1.onT i = false) /\ RepE C.M w (P.add w q.2) (C.at a w) T (fr' t) (C.at a w t) q.1):=fun t => by
  by_cases e:fr' t = fr t
  ·exact ⟨(T t,[]),List.Sublist.refl _,by simp,fun _ => ⟨rfl,rfl⟩,fun hne => absurd e hne⟩
  ·rcases (hw.wk t).2 with e' | ⟨k1,k2⟩
   ·exact absurd e' e
   ·obtain ⟨T',D,s,d,r⟩:=k2 C.M w P (C.at a w) T (C.at a w t) (T t) (h.nodup t) (h.rep t)
    exact ⟨(T',D),s,d,fun e' => absurd e' e,fun _ => ⟨k1,r⟩⟩
 obtain ⟨q,hq⟩:=Classical.axiomOfChoice hT
 have hq1:=fun t => (hq t).1
 have hq2:=fun t => (hq t).2.1
 have hDall:∀ b,b ∈ (slots C.n).flatMap (fun t => (q t).2) -> ∃ t,b ∈ (q t).2 /\ b ∈ T t /\ b ∉ (q t).1:=fun b hb => by
  obtain ⟨t,_,ht⟩:=List.mem_flatMap.1 hb
  exact ⟨t,ht,hq2 t b ht⟩
 refine ⟨P.add w ((slots C.n).flatMap fun t => (q t).2),fun t => (q t).1,h.size,h.defers,fun t ht => (hw.wk t).1 (by rw [h.dom t ht]; rfl),fun t ht => ?_,h.pext.add fun b hb => ?_,fun t => ?_,fun t => (h.nodup t).sublist (hq1 t),fun t u htu b hb hb' => h.apart t u htu b ((hq1 t).subset hb) ((hq1 u).subset hb'),fun t b hb => h.new t b ((hq1 t).subset hb),h.pin,fun b hb => ?_⟩
 ·have:=hq1 t
  rw [h.tdom t ht] at this
  exact List.sublist_nil.1 this
 ·obtain ⟨t,_,ht,_⟩:=hDall b hb
  exact (h.new t b ht).1
 ·by_cases e:fr' t = fr t
  ·obtain ⟨e1,e2⟩:=(hq t).2.2.1 e
   rw [e]
   simp only [e1]
   refine (h.rep t).mono (Keeps.add fun b hb hm => ?_) (fun _ _ => rfl) fun i hi => ⟨?_,fun b _ => .refl w b⟩
   ·obtain ⟨u,hu1,hu2,_⟩:=hDall b hm
    by_cases hut:u = t
    ·rw [hut,e2] at hu1; simp at hu1
    ·exact h.apart u t hut b hu2 hb
   ·exact ((hq i).2.2.1 (hw.hang t i (by rw [e]; exact hi))).1
  ·obtain ⟨k1,k2⟩:=(hq t).2.2.2 e
   refine k2.mono (Keeps.addMono (fun b hb => List.mem_flatMap.2 ⟨t,?_,hb⟩) fun b hb hm => ?_) (fun _ _ => rfl) fun i hi => by rw [k1 i] at hi; cases hi
   ·by_cases hts:t ∈ slots C.n
    ·exact hts
    ·have:=(hq2 t b hb).1
     rw [h.tdom t hts] at this
     simp at this
   obtain ⟨u,hu1,hu2,_⟩:=hDall b hm
   by_cases hut:u = t
   ·exact hut ▸ hu1
   ·exact absurd ((hq1 t).subset hb) (h.apart u t hut b hu2)
 ·obtain ⟨g1,g2,g3,g4,g5⟩:=h.gown b hb
  refine ⟨g1,g2,fun t hm => g3 t ((hq1 t).subset hm),g4,fun o hp => ?_⟩
  rcases hp with hp | ⟨hp,_⟩
  ·exact g5 o hp
  ·obtain ⟨t,_,ht,_⟩:=hDall b hp
   exact g3 t ht
end
def coRes {S:Type} (Tb:Tab) (d:Option Nat) (r:Res S):Res S:=
 match d with
 | none => r
 | some d => match Tb.dm (1000000000 + d) with
  | none => r
  | some m' => match r with
   | ⟨X,run,.val t m,f,us⟩ => ⟨X,run,.val t (fitM t m (some m')),f,us⟩
   | r => r
theorem Wo {S:Type} (Tb:Tab) (d:Option Nat) (r:Res S):coRes Tb d r = r \/ ∃ X run t m f us m',r = ⟨X,run,.val t m,f,us⟩ /\ coRes Tb d r = ⟨X,run,.val t (fitM t m (some m')),f,us⟩:=by
 unfold coRes
 cases d with
 | none => exact .inl rfl
 | some d =>
  simp only
  cases Tb.dm (1000000000 + d) with
  | none => exact .inl rfl
  | some m' =>
   obtain ⟨X,run,e,f,us⟩:=r
   cases e <;> first | exact .inl rfl | exact .inr ⟨X,run,_,_,f,us,m',rfl,rfl⟩
def xop {S:Type} (Tb:Tab) (ds:List Nat) (g:Nat -> Ex S) (o:Oper):Option (Res S):=(xop0 Tb ds g o).map (coRes Tb o.dst)
section
variable {C:Cx} {fr:Fr} {a:Act} {w:World} {P:Prot} {T:Nat -> List Nat}
theorem Wk.fit {t:Ty} {m:Md} {m':Option Md} {f:Unit -> t.den}:Wk ⟨.val t m,f⟩ ⟨.val t (fitM t m m'),f⟩:=by
 have key:fitM t m m' = m \/ t.le m (fitM t m m') = true:=by
  unfold fitM
  cases m' with
  | none => exact .inl rfl
  | some m' =>
   cases h:t.le m m' with
   | false => exact .inl (by simp [h])
   | true => exact .inr (by simp [h])
 generalize fitM t m m' = q at key
 rcases key with rfl | h
 ·exact .refl _
 ·by_cases e:q = m
  ·subst e; exact .refl _
  ·exact ⟨(fun h => by cases h),.inr ⟨fun _ => rfl,fun M w P tm Tf v T hn hr => RepV.coerce t hr h hn⟩⟩
theorem FWk.upd {dst:Option Nat} {x y:Ex Unit} {us:WS} (hw:Wk x y) (hy:∀ i,y.1.onT i = false):FWk (updF fr dst x us) (updF fr dst y us):=by
 cases dst with
 | none => exact .refl _
 | some d =>
  refine ⟨fun t => ?_,fun t i hi => ?_⟩
  ·show Wk (put _ d x t) (put _ d y t)
   unfold put
   split
   ·exact hw
   ·exact .refl _
  ·replace hi:(put (app fr us) d y t).1.onT i = true:=hi
   show put (app fr us) d y i = put (app fr us) d x i
   by_cases hid:i = d
   ·subst hid
    unfold put at hi
    split at hi
    ·rw [hy] at hi; cases hi
    ·split at hi
     ·cases hi
     ·rename_i hon
      have:(app fr us t).1.on i = true:=by
       generalize (app fr us t).1 = e at hi
       cases e <;> simp_all [Ent.on,Ent.onT]
      exact absurd this hon
   ·unfold put
    rw [if_neg hid,if_neg hid]
theorem Af8 {Q:Exit -> Act -> World -> Prop} {Tb:Tab} (hT:TabOk C.M Tb) (hsg:∀ f s,Tb.sg f = some s -> SigR C.M C.w0 C.P0 f s) (h:Sim C fr a w P T) {o:Oper} {r:Res Unit} {dl ds:List Nat}
  (hs:xop Tb dl fr o = some r) (hc:OpC C Tb.pin ds fr o.dst r) {y:r.X} (hy:r.run () = some y):Goal C fr a w o Q r y:=by
 unfold xop at hs
 cases h0:xop0 Tb dl fr o with
 | none => rw [h0] at hs; cases hs
 | some r0 =>
  rw [h0] at hs
  replace hs:coRes Tb o.dst r0 = r:=Option.some.inj hs
  rcases Wo Tb o.dst r0 with e | ⟨X,run,t,m,f,us,m',e1,e2⟩
  ·obtain rfl:=e.symm.trans hs
   exact Ya hT hsg h h0 hc hy
  ·subst e1
   obtain rfl:=e2.symm.trans hs
   have hc':OpC C Tb.pin ds fr o.dst ⟨X,run,.val t m,f,us⟩:=⟨fun d hd => by
    obtain ⟨h1,h2,h3,h4⟩:=hc.slot d hd
    exact ⟨h1,h2,rfl,h4⟩,hc.us,hc.cov,hc.keys,hc.pins⟩
   exact Oper.wp_mono (fun a' w' ⟨P',T',hs⟩ => hs.weak (FWk.upd Wk.fit fun _ => rfl)) (Ya hT hsg h h0 hc' (y:=y) hy)
end
inductive DStep (Tb:Tab) (n:Nat) (ops:Array Oper) (o:Oper) (fr:Fr):Fr -> Prop
 | run (dl ds:List Nat) (r:Res Unit) (y:r.X):(∀ t,t ∉ ds -> fr t = Ex.non) -> runs ops fr o = some true -> xop Tb dl fr o = some r -> chk n Tb.pin ds fr o.dst r = true -> r.run () = some y ->
   DStep Tb n ops o fr (updF fr o.dst ⟨r.e,fun _ => r.f () y⟩ (r.ws y))
 | skip (d:Nat):runs ops fr o = some false -> o.dst = some d -> (d < n /\ d < gB) -> Tb.pin d = false -> DStep Tb n ops o fr (put fr d ⟨.und,fun _ => ()⟩)
inductive DRun (Tb:Tab) (n:Nat) (ops:Array Oper):List Oper -> Fr -> Fr -> Prop
 | nil (fr:Fr):DRun Tb n ops [] fr fr
 | known (l:List Oper) (fr fr':Fr) (d:Nat) (m:Md) (f:Unit -> Bool):fr d = ⟨.val .bool m,f⟩ -> DRun Tb n ops l (put fr d ⟨.kb (f ()),fun _ => ()⟩) fr' -> DRun Tb n ops l fr fr'
 | step (o:Oper) (l:List Oper) (fr fr1 fr':Fr):DStep Tb n ops o fr fr1 -> DRun Tb n ops l fr1 fr' -> DRun Tb n ops (o :: l) fr fr'
section
variable {C:Cx} {fr:Fr} {a:Act} {w:World} {P:Prot} {T:Nat -> List Nat}
theorem Sim.hang_nil (h:Sim C fr a w P T) {t d:Nat} (hon:(fr t).1.on d = true):T t = []:=by
 have hr:=h.rep t
 generalize fr t = y at hr hon
 obtain ⟨e,f⟩:=y
 cases e <;> first | exact hr.1 | (simp [Ent.on] at hon; done)
theorem Ent.on_of_onT {e:Ent} {i:Nat} (hi:e.onT i = true):e.on i = true:=by
 cases e <;> simp_all [Ent.on,Ent.onT]
theorem Sim.known (h:Sim C fr a w P T) {d:Nat} {m:Md} {f:Unit -> Bool} (hd:fr d = ⟨.val .bool m,f⟩):∃ T',Sim C (put fr d ⟨.kb (f ()),fun _ => ()⟩) a w P T':=by
 have hdn:d ∈ slots C.n:=h.lt_of (by rw [hd]; simp)
 have hr:=h.rep d
 rw [hd] at hr
 simp only [RepE,RepV] at hr
 refine ⟨fun t => if t = d then [] else T t,h.stepG [d] h.size h.defers (fun t ht => ?_) (fun t ht => ?_) h.pext (Nat.le_refl _) (fun S _ => Keeps.refl w P S) (fun b hb => (h.gown b hb).2.2.2) (fun t _ => rfl) (fun t hm => ?_) (fun t hm => ?_) (fun t hm => ?_) (fun t u ht hu htu => ?_) (fun t ht b hb => ?_) (fun t v hv => rfl)⟩
 ·unfold put; rw [if_neg (fun e:t = d => ht (e ▸ hdn)),h.dom t ht]; rfl
 ·split
  ·rfl
  ·exact h.tdom t ht
 ·have hne:t ≠ d:=by simpa using hm
  unfold put
  rw [if_neg hne,if_neg hne]
  by_cases hon:(fr t).1.on d = true
  ·rw [if_pos hon]
   exact .inr ⟨rfl,h.hang_nil hon⟩
  ·rw [if_neg hon]
   refine .inl ⟨rfl,rfl,fun _ _ => rfl,fun i hi => ?_⟩
   have hid:i ≠ d:=fun e => hon (e ▸ Ent.on_of_onT hi)
   exact ⟨by simpa using hid,by rw [if_neg hid]⟩
 ·obtain rfl:t = d:=by simpa using hm
  unfold put
  rw [if_pos rfl,if_pos rfl]
  exact ⟨rfl,hr.1⟩
 ·obtain rfl:t = d:=by simpa using hm
  simp
 ·simp only [List.mem_singleton] at ht hu; exact absurd (ht.trans hu.symm) htu
 ·obtain rfl:t = d:=by simpa using ht
  simp at hb
theorem DStep.sound {Q:Exit -> Act -> World -> Prop} {Tb:Tab} (hT:TabOk C.M Tb) (hsg:∀ f s,Tb.sg f = some s -> SigR C.M C.w0 C.P0 f s) (hpin:∀ t,Tb.pin t = false -> C.pv t = none) {ops:Array Oper} {o:Oper} {fr1:Fr} (hd:DStep Tb C.n ops o fr fr1) (h:Sim C fr a w P T) {K:Act -> World -> Prop}
  (hK:∀ a' w' P' T',Sim C fr1 a' w' P' T' -> K a' w'):if Region.wanted o (yielded ops a.tmps) then o.wp C.M a w K Q else K (a.put o.dst undef) w:=by
 cases hd with
 | run dl ds r y hds hr hx hc hy =>
  rw [Vn h hr,if_pos rfl]
  exact Oper.wp_mono (fun a' w' ⟨P',T',hs⟩ => hK a' w' P' T' hs) (Af8 hT hsg h hx (OpC.of hc hds hpin) hy)
 | skip d hr hod hdn hp =>
  rw [Vn h hr,if_neg (by simp),hod]
  refine hK _ _ P _ (h.upd (dst:=some d) (x:=⟨.und,fun _ => ()⟩) (v:=undef) (us:=[]) (fun _ => []) (fun d' hd' => ?_) (by simp) (by simp [wdom]) h.pext (Nat.le_refl _) (fun S _ => Keeps.refl w P S) (fun d' hd' => ⟨rfl,rfl⟩) (by simp) (fun _ => List.nodup_nil) (fun _ _ _ _ hb => by simp at hb) (fun _ _ hb => by simp at hb))
  cases hd'
  exact ⟨hdn,hpin _ hp,rfl,by simp [wdom]⟩
theorem DRun.sound {Q:Exit -> Act -> World -> Prop} {Tb:Tab} (hT:TabOk C.M Tb) (hsg:∀ f s,Tb.sg f = some s -> SigR C.M C.w0 C.P0 f s) (hpin:∀ t,Tb.pin t = false -> C.pv t = none) {ops:Array Oper} {l:List Oper} {fr fr':Fr} (hd:DRun Tb C.n ops l fr fr')
  (hQ:∀ a' w' P' T',Sim C fr' a' w' P' T' -> Q .normal a' w'):∀ {a:Act} {w:World} {P:Prot} {T:Nat -> List Nat},Sim C fr a w P T -> wpList C.M ops Q l a w:=by
 induction hd with
 | nil fr => intro a w P T h; exact hQ a w P T h
 | known l fr fr' d m f hf _ ih =>
  intro a w P T h
  obtain ⟨T',h'⟩:=h.known hf
  exact ih hQ h'
 | step o l fr fr1 fr' hs _ ih =>
  intro a w P T h
  exact wpList_step fun K hK => hs.sound hT hsg hpin h fun a' w' P' T' h' => hK a' w' (ih hQ h')
end
end Go.Abs
