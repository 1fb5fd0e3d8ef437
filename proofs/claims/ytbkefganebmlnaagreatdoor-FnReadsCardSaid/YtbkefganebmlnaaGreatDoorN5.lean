/-
  The meta layer, part 5: operations on plain values; copies; how one operation is shown to do what it does to typed data.
-/
import Derived.Test.YtbkefganebmlnaaGreatDoorN4
namespace Go.Abs
open Go.RowKit
set_option linter.unusedVariables false
set_option linter.unusedSimpArgs false
def TyOk (M:Program) (t:TypeId):Ty -> Prop
 | .int k => M.underlying t = some (.int k)
 | .bool => M.underlying t = some .bool
 | .str => M.underlying t = some .string
 | .sl e τ => M.underlying t = some (.slice e) /\ ∃ i z,M.info? e = some i /\ i.zero = some z /\ i.size = τ.size /\ z.cells.size = τ.size /\ 0 < τ.size /\ i.bytes <= 4096 /\ (∀ y,τ.zero = some y -> z = valOf τ τ.zcells) /\ (∀ k,τ = .int k -> M.underlying e = some (.int k))
 | .st ts => ∃ fs,M.underlying t = some (.struct fs) /\ M.eqGuardType M.depth t = false /\ M.stoodInHeld t = false /\ fs.size = ts.length /\
   ∀ j τ, ts[j]? = some τ → ∃ f d, fs[j]? = some f ∧ f.offset = offs ts j ∧ f.name ≠ "_" ∧ 0 < τ.size ∧ M.underlying f.type = some d ∧
    (M.info? f.type).map (·.size) = some τ.size /\ (match d with | .struct _ | .array _ _ => ∃ us,τ = .st us | _ => ∀ us,τ ≠ .st us)
 | .fn _ _ => ∃ a b c,M.underlying t = some (.func a b c)
 | .tup _ => False
 | .ptr _ => ∃ e,M.underlying t = some (.pointer e)
structure TnOk (M:Program) (t:TypeId) (ty:Ty):Prop where
 kind:TyOk M t ty
 eqk:∀ ts,ty = .st ts -> ∀ fs:Array Field,M.underlying t = some (.struct fs) -> ∀ (j:Nat) (τ:Ty),ts[j]? = some τ -> ∀ f:Field,fs[j]? = some f ->
  (∀ k,τ = .int k -> M.underlying f.type = some (.int k)) /\ (τ = .bool -> M.underlying f.type = some .bool) /\ (τ = .str -> M.underlying f.type = some .string)
 info:∃ i,M.info? t = some i /\ i.size = ty.size /\ ∀ z,ty.zero = some z -> i.zero = some (valOf ty ty.zcells)
def TabOk (M:Program) (T:Tab):Prop:=∀ t ty,T.tt t = some ty -> TnOk M t ty
def Res.ws (r:Res Unit) (y:r.X):WS:=r.us.map fun p => (p.1,⟨p.2.1,fun _ => p.2.2 () y⟩)
def chk {S:Type} (n:Nat) (pin:Nat -> Bool) (ds:List Nat) (g:Nat -> Ex S) (dst:Option Nat) (r:Res S):Bool:=
 (match dst with
  | some d => decide (d < n) && !isG d && !pin d && !(r.e.on d) && r.us.all fun p => p.1 != d
  | none => true) &&
 r.us.all (fun p => slotB n p.1 && p.2.1.own && !pin p.1 || p.2.1.own && slotB n p.1) &&
 ds.all (fun k => dst == some k || r.us.any (fun p => p.1 == k) || r.us.all fun p => !(g k).1.onT p.1)
section
variable {C:Cx} {fr:Fr} {a:Act} {w:World} {P:Prot} {T:Nat -> List Nat}
abbrev Goal (C:Cx) (fr:Fr) (a:Act) (w:World) (o:Oper) (Q:Exit -> Act -> World -> Prop) (r:Res Unit) (y:r.X):Prop:=
 o.wp C.M a w (fun a' w' => ∃ P' T',Sim C (updF fr o.dst ⟨r.e,fun _ => r.f () y⟩ (r.ws y)) a' w' P' T') Q
structure OpC (C:Cx) (pin:Nat -> Bool) (ds:List Nat) (fr:Fr) (dst:Option Nat) (r:Res Unit):Prop where
 slot:∀ d,dst = some d -> (d < C.n /\ d < gB) /\ C.pv d = none /\ r.e.on d = false /\ ∀ p ∈ r.us,p.1 ≠ d
 us:∀ p ∈ r.us,p.1 ∈ slots C.n /\ p.2.1.own = true
 cov:∀ k p,p ∈ r.us -> (fr k).1.onT p.1 = true -> some k = dst \/ ∃ p' ∈ r.us,p'.1 = k
 keys:∀ t,t ∉ ds -> fr t = Ex.non
 pins:∀ t,pin t = false -> C.pv t = none
theorem OpC.of {pin:Nat -> Bool} {ds:List Nat} {dst:Option Nat} {r:Res Unit} (hc:chk C.n pin ds fr dst r = true) (hds:∀ t,t ∉ ds -> fr t = Ex.non) (hpin:∀ t,pin t = false -> C.pv t = none):OpC C pin ds fr dst r:=by
 unfold chk at hc
 simp only [Bool.and_eq_true,List.all_eq_true,Bool.or_eq_true,decide_eq_true_eq,Bool.not_eq_true',beq_iff_eq,List.any_eq_true] at hc
 obtain ⟨⟨h1,h2⟩,h3⟩:=hc
 refine ⟨fun d hd => ?_,fun p hp => ?_,fun k p hp hon => ?_,hds,hpin⟩
 ·subst hd
  simp only [Bool.and_eq_true,List.all_eq_true,decide_eq_true_eq,Bool.not_eq_true',bne_iff_ne,ne_eq] at h1
  exact ⟨⟨h1.1.1.1.1,isG_no.1 h1.1.1.1.2⟩,hpin d h1.1.1.2,h1.1.2,h1.2⟩
 ·have:=h2 p hp
  rcases this with ⟨⟨h,h'⟩,_⟩ | ⟨h,h'⟩
  ·exact ⟨Qw.1 h,h'⟩
  ·exact ⟨Qw.1 h',h⟩
 ·by_cases hk:k ∈ ds
  ·rcases h3 k hk with (h | ⟨p',h,h'⟩) | h
   ·exact .inl h.symm
   ·exact .inr ⟨p',h,h'⟩
   ·have:=h p hp
    rw [hon] at this
    cases this
  ·rw [hds k hk] at hon
   simp [Ex.non,Ent.onT] at hon
theorem Res.mem_ws {r:Res Unit} {y:r.X} {p:Nat × Ex Unit} (h:p ∈ r.ws y):∃ q ∈ r.us,p = (q.1,⟨q.2.1,fun _ => q.2.2 () y⟩):=by
 obtain ⟨q,hq,rfl⟩:=List.mem_map.1 h
 exact ⟨q,hq,rfl⟩
theorem Res.wdom_ws {r:Res Unit} {y:r.X}:wdom (r.ws y) = r.us.map (·.1):=by
 unfold wdom Res.ws
 rw [List.map_map]
 rfl
theorem Jh {M:Program} {o:Oper} {next:Act -> World -> Prop} {Q:Exit -> Act -> World -> Prop} {v:Value} {w':World} (hr:(execOp a.eval o).run M w = .ok (.value v) w') (hn:next (a.put o.dst v) w'):o.wp M a w next Q:=by
 unfold Oper.wp; rw [hr]; exact hn
theorem Acv {M:Program} {o:Oper} {next:Act -> World -> Prop} {Q:Exit -> Act -> World -> Prop} {w':World} (hr:(execOp a.eval o).run M w = .ok .skip w') (hn:next (a.put o.dst undef) w'):o.wp M a w next Q:=by
 unfold Oper.wp; rw [hr]; exact hn
structure Did (C:Cx) (fr:Fr) (a:Act) (w:World) (P:Prot) (T:Nat -> List Nat) (dst:Option Nat) (r:Res Unit) (y:r.X) (v:Value) (w':World) (P':Prot) (Tn:Nat -> List Nat):Prop where
 pext:PExt C.F C.w0 C.P0 w' P'
 size:w.heap.size <= w'.heap.size
 keeps:∀ S:List Nat,(∀ b ∈ S,b < w.heap.size /\ b ∉ (r.us.map (·.1)).flatMap T) -> Keeps w P w' P' S
 val:∀ d,dst = some d -> RepE C.M w' P' (C.at (a.put dst v) w') (updT fr dst (r.ws y) T Tn) ⟨r.e,fun _ => r.f () y⟩ v (Tn d)
 turned:∀ p ∈ r.us,∀ tm Tf,RepE C.M w' P' tm Tf ⟨p.2.1,fun _ => p.2.2 () y⟩ (C.at a w p.1) (Tn p.1)
 nodup:∀ t,(Tn t).Nodup
 apart:∀ t u,t ≠ u -> ∀ b ∈ Tn t,b ∉ Tn u
 sub:∀ t,∀ b ∈ Tn t,b ∈ (r.us.map (·.1)).flatMap T \/ (w.heap.size <= b /\ b < w'.heap.size)
theorem Sim.did (h:Sim C fr a w P T) {pin:Nat -> Bool} {ds:List Nat} {dst:Option Nat} {r:Res Unit} (hc:OpC C pin ds fr dst r) {y:r.X} {v:Value} {w':World} {P':Prot} {Tn:Nat -> List Nat}
  (hd:Did C fr a w P T dst r y v w' P' Tn):∃ P' T',Sim C (updF fr dst ⟨r.e,fun _ => r.f () y⟩ (r.ws y)) (a.put dst v) w' P' T':=by
 refine ⟨P',_,h.upd Tn (fun d hdd => ?_) (fun p hp => ?_) (fun k i hi hon => ?_) hd.pext hd.size (fun S hS => hd.keeps S (by rw [<- Res.wdom_ws (y:=y)]; exact hS)) (fun d hdd => hd.val d hdd) (fun p hp _ => ?_) hd.nodup hd.apart (fun t b hb => ?_)⟩
 ·obtain ⟨h1,h2,h3,h4⟩:=hc.slot d hdd
  refine ⟨h1,h2,h3,fun hm => ?_⟩
  rw [Res.wdom_ws] at hm
  obtain ⟨p,hp,e⟩:=List.mem_map.1 hm
  exact h4 p hp e
 ·obtain ⟨q,hq,rfl⟩:=Res.mem_ws hp
  exact hc.us q hq
 ·rw [Res.wdom_ws] at hi ⊢
  obtain ⟨p,hp,rfl⟩:=List.mem_map.1 hi
  rcases hc.cov k p hp hon with h | ⟨p',h1,rfl⟩
  ·exact .inl h
  ·exact .inr (List.mem_map_of_mem h1)
 ·obtain ⟨q,hq,rfl⟩:=Res.mem_ws hp
  exact hd.turned q hq _ _
 ·rw [Res.wdom_ws]; exact hd.sub t b hb
theorem opx_rep (h:Sim C fr a w P T) (x:Operand):∃ Tx,RepE C.M w P (C.at a w) T (opx fr x) (a.eval x) Tx /\ (∀ i,slotOf x = some i -> Tx = T i \/ (Tx = [] /\ (fr i = Ex.non \/ opx fr x = Ex.non))):=by
 cases x with
 | tmp t =>
  by_cases hg:isG t = true
  ·refine ⟨[],?_,fun i _ => .inr ⟨rfl,.inr ?_⟩⟩
   ·simp only [opx,if_pos hg]; rfl
   ·simp only [opx,if_pos hg]
  ·have hlt:t < gB:=isG_no.1 (by simpa using hg)
   have hr:=h.rep t
   rw [Cx.at_n hlt] at hr
   refine ⟨T t,?_,fun i hi => by simp only [slotOf,Option.some.injEq] at hi; rw [hi]; exact .inl rfl⟩
   simp only [opx,if_neg hg]
   split
   ·rename_i b f heq
    rw [heq] at hr
    obtain ⟨h1,h2⟩:=hr
    simp only [RepE,RepV]
    exact ⟨h2,h1⟩
   ·exact hr
 | const v =>
  refine ⟨[],?_,fun i hi => by simp [slotOf] at hi⟩
  cases v <;> simp [opx,Act.eval,RepE,RepV,Ex.non]
 | global g => exact ⟨[],rfl,fun i hi => by simp [slotOf] at hi⟩
 | func f => exact ⟨[],rfl,fun i hi => by simp [slotOf] at hi⟩
theorem Sim.lt_of (h:Sim C fr a w P T) {i:Nat} (hi:(fr i).1 ≠ .non):i ∈ slots C.n:=by
 by_cases hin:i ∈ slots C.n
 ·exact hin
 ·exact absurd (by rw [h.dom i hin]; rfl) hi
theorem opx_g {x:Operand} {i:Nat} (hx:opx fr x ≠ Ex.non) (hi:slotOf x = some i):i < gB:=by
 cases x <;> simp only [slotOf,Option.some.injEq,reduceCtorEq] at hi
 subst hi
 rename_i t
 by_cases hg:isG t = true
 ·exact absurd (by simp only [opx,if_pos hg]) hx
 ·exact isG_no.1 (by simpa using hg)
theorem Mv {x:Operand} {i:Nat} (h:slotOf x = some i):x = .tmp i:=by
 cases x <;> simp [slotOf] at h; rw [h]
theorem opx_T {x:Operand} {i:Nat} {Tx:List Nat} {e:Ent} {f:Unit -> e.pay} (hT:Tx = T i \/ (Tx = [] /\ (fr i = Ex.non \/ opx fr x = Ex.non))) (hi:slotOf x = some i) (hx:opx fr x = ⟨e,f⟩) (hn:e ≠ .non):Tx = T i:=by
 rcases hT with h' | ⟨_,h' | h'⟩
 ·exact h'
 ·have hx':=Mv hi
  subst hx'
  have hh:opx fr (.tmp i) = Ex.non:=by
   simp only [opx,h']
   split <;> rfl
  rw [hh] at hx
  exact absurd (congrArg Sigma.fst hx).symm hn
 ·rw [h'] at hx
  exact absurd (congrArg Sigma.fst hx).symm hn
theorem Cx.at_put {d:Nat} {v:Value} (hd:d < gB) (hs:d < a.tmps.size) (t:Nat):C.at (a.put (some d) v) w t = if t = d then v else C.at a w t:=by
 unfold Cx.at
 rw [Act.at_put hs]
 by_cases h:t = d
 ·rw [if_pos h,if_pos h,if_pos (h ▸ hd)]
 ·rw [if_neg h,if_neg h]
theorem Sim.at_put (h:Sim C fr a w P T) {d:Nat} (hd:d < C.n /\ d < gB) {v:Value} {w':World} {P':Prot} {D:List Nat} (hD:∀ b ∈ D,∃ t,b ∈ T t)
  (hk:∀ S:List Nat,(∀ b ∈ S,b < w.heap.size /\ b ∉ D) -> Keeps w P w' P' S) (t:Nat):C.at (a.put (some d) v) w' t = if t = d then v else C.at a w t:=by
 rw [Cx.at_put hd.2 (by rw [h.size]; exact hd.1),Cx.at_same fun b hb => (h.gsame hD hk b hb).1]
theorem opx_at {S:Type} {g:Nat -> Ex S} {i:Nat} {e:Ent} {f:S -> e.pay} (hx:opx g (.tmp i) = ⟨e,f⟩) (hn:e ≠ .non) (hb:e ≠ .val .bool .p):g i = ⟨e,f⟩:=by
 simp only [opx] at hx
 split at hx
 ·exact absurd (congrArg Sigma.fst hx).symm hn
 ·split at hx
  ·exact absurd (congrArg Sigma.fst hx).symm hb
  ·exact hx
theorem opx_or (h:Sim C fr a w P T) {j:Nat} {t:Ty} {m:Md} {f:Unit -> t.den} (hx:opx fr (.tmp j) = ⟨.val t m,f⟩):fr j = ⟨.val t m,f⟩ \/ T j = []:=by
 have hr:=h.rep j
 simp only [opx] at hx
 split at hx
 ·cases hx
 ·split at hx
  ·rename_i b g heq
   rw [heq] at hr
   exact .inr hr.1
  ·exact .inl hx
theorem opx_val (h:Sim C fr a w P T) {x:Operand} {t:Ty} {m:Md} {f:Unit -> t.den} (hx:opx fr x = ⟨.val t m,f⟩) (hf:t.fz m = true):RepV C.M t w P .p (f ()) (a.eval x) []:=by
 obtain ⟨Tx,h1,_⟩:=opx_rep h x
 rw [hx] at h1
 exact RepV.shared h1 hf
theorem opx_int (h:Sim C fr a w P T) {x:Operand} {k:IntKind} {m:Md} {f:Unit -> Int} (hx:opx fr x = ⟨.val (.int k) m,f⟩):a.eval x = .int k (f ()):=by
 have:=opx_val h hx rfl
 simp only [RepV] at this
 exact this.1
theorem Va (h:Sim C fr a w P T) {x:Operand} {m:Md} {f:Unit -> Bool} (hx:opx fr x = ⟨.val .bool m,f⟩):a.eval x = .bool (f ()):=by
 have:=opx_val h hx rfl
 simp only [RepV] at this
 exact this.1
theorem opx_str (h:Sim C fr a w P T) {x:Operand} {m:Md} {f:Unit -> List UInt8} (hx:opx fr x = ⟨.val .str m,f⟩):a.eval x = .string ⟨List.toArray (f ())⟩:=by
 have:=opx_val h hx rfl
 simp only [RepV] at this
 exact this.1
theorem Sim.plain (h:Sim C fr a w P T) {pin:Nat -> Bool} {ds:List Nat} {o:Oper} {r:Res Unit} (hc:OpC C pin ds fr o.dst r) {y:r.X} {v:Value} {Q:Exit -> Act -> World -> Prop}
  (hr:(execOp a.eval o).run C.M w = .ok (.value v) w) (hus:r.us = []) (hx:RepE C.M w P (C.at a w) T ⟨r.e,fun _ => r.f () y⟩ v []):Goal C fr a w o Q r y:=by
 refine Jh hr ?_
 refine h.did hc (Tn:=fun _ => []) ⟨h.pext,Nat.le_refl _,fun S _ => Keeps.refl w P S,fun d hd => ?_,by rw [hus]; simp,fun _ => List.nodup_nil,fun _ _ _ _ hb => by simp at hb,fun _ _ hb => by simp at hb⟩
 obtain ⟨h1,h2,h3,h4⟩:=hc.slot d hd
 rw [hd]
 refine hx.mono (Keeps.refl w P []) (fun i hi => ?_) (fun i hi => ⟨?_,fun b _ => .refl w b⟩)
 ·rw [Cx.at_put h1.2 (by rw [h.size]; exact h1.1),if_neg (fun e => by rw [e,h3] at hi; cases hi)]
 ·have hoi:r.e.on i = true:=by
   have hi:r.e.onT i = true:=hi
   generalize r.e = e at hi
   cases e <;> simp_all [Ent.on,Ent.onT]
  unfold updT
  rw [if_neg]
  rintro (e | e)
  ·cases e; rw [h3] at hoi; cases hoi
  ·rw [Res.wdom_ws,hus] at e; simp at e
theorem Sim.plain1 (h:Sim C fr a w P T) {pin:Nat -> Bool} {ds:List Nat} {o:Oper} {t:Ty} {f:Unit -> t.den} {r:Res Unit} (hs:pure1 t f = some r) (hc:OpC C pin ds fr o.dst r) {y:r.X} {v:Value} {Q:Exit -> Act -> World -> Prop}
  (hr:(execOp a.eval o).run C.M w = .ok (.value v) w) (hx:RepV C.M t w P .p (f ()) v []):Goal C fr a w o Q r y:=by
 cases hs
 exact h.plain hc hr rfl hx
theorem Sim.plain2 (h:Sim C fr a w P T) {pin:Nat -> Bool} {ds:List Nat} {o:Oper} {t:Ty} {f:Unit -> Option t.den} {r:Res Unit} (hs:part1 t f = some r) (hc:OpC C pin ds fr o.dst r) {y:r.X} (hy:r.run () = some y) {Q:Exit -> Act -> World -> Prop}
  (hr:∀ z,f () = some z -> ∃ v,(execOp a.eval o).run C.M w = .ok (.value v) w /\ RepV C.M t w P .p z v []):Goal C fr a w o Q r y:=by
 cases hs
 obtain ⟨v,h1,h2⟩:=hr y hy
 exact h.plain hc h1 rfl h2
theorem Vv (l:List UInt8):(⟨List.toArray l⟩:ByteArray).toList = l:=by rw [ByteArray.toList_eq]
theorem Pb (l:List UInt8):(⟨List.toArray l⟩:ByteArray).size = l.length:=by simp [ByteArray.size]
theorem Aft {Q:Exit -> Act -> World -> Prop} (h:Sim C fr a w P T) {o:Oper} {op:BinOp} {xt yt:TypeId} {x y:Operand} (ho:o.op = .binOp op xt x y yt)
  {k k':IntKind} {f g:Unit -> Int} (hx:a.eval x = .int k (f ())) (hy:a.eval y = .int k' (g ())) {r:Res Unit} (hs:binInt op k k' f g = some r) {pin:Nat -> Bool} {ds:List Nat} (hc:OpC C pin ds fr o.dst r) {z:r.X} (hz:r.run () = some z):Goal C fr a w o Q r z:=by
 unfold binInt at hs
 split at hs
 ·refine h.plain2 hs hc hz fun z hz => ?_
  unfold shiftI at hz
  split at hz
  ·cases hz
  ·rename_i hneg
   cases hz
   exact ⟨.int k _,by simp [execOp,ho,eqGuard,binOp,hx,hy,Op.shift,hneg]; rfl,by simp only [RepV]; exact ⟨rfl,trivial⟩⟩
 ·refine h.plain2 hs hc hz fun z hz => ?_
  unfold shiftI at hz
  split at hz
  ·cases hz
  ·rename_i hneg
   cases hz
   exact ⟨.int k _,by simp [execOp,ho,eqGuard,binOp,hx,hy,Op.shift,hneg]; rfl,by simp only [RepV]; exact ⟨rfl,trivial⟩⟩
 ·split at hs
  ·rename_i hkk
   subst hkk
   split at hs
   case h_4 =>
    refine h.plain2 hs hc hz fun z hz => ?_
    unfold quoZ at hz
    split at hz
    ·cases hz
    ·rename_i hne
     cases hz
     exact ⟨.int k _,by simp [execOp,ho,eqGuard,binOp,hx,hy,Op.intDiv,hne]; rfl,by simp [RepV]⟩
   case h_5 =>
    refine h.plain2 hs hc hz fun z hz => ?_
    unfold remZ at hz
    split at hz
    ·cases hz
    ·rename_i hne
     cases hz
     exact ⟨.int k _,by simp [execOp,ho,eqGuard,binOp,hx,hy,Op.intDiv,hne]; rfl,by simp [RepV]⟩
   case h_16 => cases hs
   all_goals
    first
     | (refine h.plain1 (t:=.int k) hs hc (v:=.int k _) ?_ (by simp only [RepV]; exact ⟨rfl,trivial⟩); simp [execOp,ho,eqGuard,binOp,hx,hy,Op.intArith,Op.intBits,bitsI,addZ,subZ,mulZ]; done)
     | (refine h.plain1 (t:=.bool) hs hc (v:=.bool _) ?_ (by simp only [RepV]; exact ⟨rfl,trivial⟩); simp [execOp,ho,eqGuard,binOp,hx,hy,Op.intCmp,eqZ,ltZ,leZ,notB,bne]; done)
  ·cases hs
theorem Afc {Q:Exit -> Act -> World -> Prop} (h:Sim C fr a w P T) {o:Oper} {op:BinOp} {xt yt:TypeId} {x y:Operand} (ho:o.op = .binOp op xt x y yt)
  {f g:Unit -> List UInt8} (hx:a.eval x = .string ⟨List.toArray (f ())⟩) (hy:a.eval y = .string ⟨List.toArray (g ())⟩) {r:Res Unit} (hs:binStr op f g = some r) {pin:Nat -> Bool} {ds:List Nat} (hc:OpC C pin ds fr o.dst r) {z:r.X} (hz:r.run () = some z):Goal C fr a w o Q r z:=by
 unfold binStr at hs
 split at hs
 case h_1 =>
  refine h.plain2 (t:=.str) hs hc hz fun z hz => ?_
  simp only [addI] at hz
  split at hz
  ·rename_i hroom
   cases hz
   refine ⟨.string ⟨List.toArray (f () ++ g ())⟩,?_,by simp [RepV]⟩
   have hno:¬ (((⟨List.toArray (f ())⟩:ByteArray).size + (⟨List.toArray (g ())⟩:ByteArray).size:Nat):Int) > IntKind.i64.max:=by
    rw [Pb,Pb]
    simp only [room] at hroom
    simp only [IntKind.max,IntKind.signed,IntKind.bits]
    simp
    omega
   have happ:(⟨List.toArray (f ())⟩:ByteArray) ++ ⟨List.toArray (g ())⟩ = ⟨List.toArray (f () ++ g ())⟩:=by
    apply ByteArray.ext; simp
   simp only [execOp,ho,eqGuard,binOp,hx,hy,Op.stringOp]
   simp only [Sem.run_bind,Sem.run_pure,Result.andThen_ok,Sem.run_ite,if_neg hno,happ]
   simp
  ·cases hz
 case h_8 => cases hs
 all_goals
  refine h.plain1 (t:=.bool) hs hc (v:=.bool _) ?_ (by simp only [RepV]; exact ⟨rfl,trivial⟩)
  simp [execOp,ho,eqGuard,binOp,hx,hy,Op.stringOp,Vv,eqS,ltS,notB,orB,bne]
theorem Ad0 {Q:Exit -> Act -> World -> Prop} (h:Sim C fr a w P T) {o:Oper} {op:BinOp} {xt yt:TypeId} {x y:Operand} (ho:o.op = .binOp op xt x y yt)
  {f g:Unit -> Bool} (hx:a.eval x = .bool (f ())) (hy:a.eval y = .bool (g ())) (ht:C.M.underlying xt = some .bool) {r:Res Unit} (hs:binBool op f g = some r) {pin:Nat -> Bool} {ds:List Nat} (hc:OpC C pin ds fr o.dst r) {z:r.X}:Goal C fr a w o Q r z:=by
 have heq:=run_equalIn_bool' (P:=C.M) w 9999 xt (f ()) (g ()) ht
 unfold binBool at hs
 split at hs
 case h_3 => cases hs
 all_goals
  refine h.plain1 (t:=.bool) hs hc (v:=.bool _) ?_ (by simp only [RepV]; exact ⟨rfl,trivial⟩)
  simp [execOp,ho,eqGuard,binOp,hx,hy,Op.equal,Op.maxDepth,heq,eqB,notB,bne]
theorem Afd {Q:Exit -> Act -> World -> Prop} (h:Sim C fr a w P T) {o:Oper} {op:UnOp} {xt:TypeId} {x:Operand} (ho:o.op = .unOp op xt x)
  {f:Unit -> Bool} (hx:a.eval x = .bool (f ())) {r:Res Unit} (hs:unBool op f = some r) {pin:Nat -> Bool} {ds:List Nat} (hc:OpC C pin ds fr o.dst r) {z:r.X}:Goal C fr a w o Q r z:=by
 unfold unBool at hs
 split at hs
 ·refine h.plain1 (t:=.bool) hs hc (v:=.bool _) ?_ (by simp only [RepV]; exact ⟨rfl,trivial⟩)
  simp [execOp,ho,hx,Op.unary,notB]
 ·cases hs
theorem Agl {Q:Exit -> Act -> World -> Prop} (h:Sim C fr a w P T) {o:Oper} {op:UnOp} {xt:TypeId} {x:Operand} (ho:o.op = .unOp op xt x)
  {k:IntKind} {f:Unit -> Int} (hx:a.eval x = .int k (f ())) {r:Res Unit} (hs:unInt op k f = some r) {pin:Nat -> Bool} {ds:List Nat} (hc:OpC C pin ds fr o.dst r) {z:r.X}:Goal C fr a w o Q r z:=by
 unfold unInt at hs
 split at hs
 ·refine h.plain1 (t:=.int k) hs hc (v:=.int k _) ?_ (by simp only [RepV]; exact ⟨rfl,trivial⟩)
  simp [execOp,ho,hx,Op.unary,Op.intArith,subZ]
 ·cases hs
theorem Tab.of_is {M:Program} {Tb:Tab} (hT:TabOk M Tb) {t:TypeId} {ty:Ty} (h:Tb.is t ty = true):TnOk M t ty:=by
 unfold Tab.is at h
 split at h
 ·rename_i u hu
  cases hs:Ty.same u ty with
  | none => rw [hs] at h; cases h
  | some k => exact k.down ▸ hT _ _ hu
 ·cases h
theorem Tab.of_isA {M:Program} {Tb:Tab} (hT:TabOk M Tb) {t:TypeId} {e:Ent} {ty:Ty} (h:Tb.isA t e = true) (he:e.tyA = some ty):TnOk M t ty:=by
 unfold Tab.isA at h
 rw [he] at h
 exact Tab.of_is hT h
theorem Tab.of_isV {M:Program} {Tb:Tab} (hT:TabOk M Tb) {t:TypeId} {e:Ent} {ty:Ty} (h:Tb.isV t e = true) (he:e.tyV = some ty):TnOk M t ty:=by
 unfold Tab.isV at h
 rw [he] at h
 exact Tab.of_is hT h
theorem Zv {Q:Exit -> Act -> World -> Prop} (h:Sim C fr a w P T) {o:Oper} {c:Call} (ho:o.op = .call c) {x y:Operand} {mx:Bool} (hcc:c.callee = .builtin (if mx then .max else .min))
  (hargs:c.args.toList = [x,y]) {r:Res Unit} (hs:sMinMax mx (opx fr x) (opx fr y) = some r) {pin:Nat -> Bool} {ds:List Nat} (hc:OpC C pin ds fr o.dst r) {z:r.X}:Goal C fr a w o Q r z:=by
 have ha:c.args = #[x,y]:=by rw [<- Array.toArray_toList (xs:=c.args),hargs]
 unfold sMinMax at hs
 split at hs
 ·rename_i k m1 f k' m2 g hx hy
  have h1:=opx_int h hx
  have h2:=opx_int h hy
  split at hs
  ·rename_i hmx
   refine h.plain1 (t:=.int k) hs hc (v:=.int k (maxI (f ()) (g ()))) ?_ (by simp [RepV])
   simp [execOp,ho,resolve,hcc,hmx,invoke,builtin,ha,h1,h2,Builtin.max_,Builtin.max2,maxI,List.foldlM]
  ·rename_i hmx
   refine h.plain1 (t:=.int k) hs hc (v:=.int k (minI (f ()) (g ()))) ?_ (by simp [RepV])
   simp [execOp,ho,resolve,hcc,hmx,invoke,builtin,ha,h1,h2,Builtin.min_,Builtin.min2,minI,List.foldlM]
 ·cases hs
theorem Ah9 {Q:Exit -> Act -> World -> Prop} (h:Sim C fr a w P T) {o:Oper} {v:Value} (ho:o.op = .assign (.const v))
  {Tb:Tab} {r:Res Unit} (hs:sConst Tb o.type v = some r) {pin:Nat -> Bool} {ds:List Nat} (hc:OpC C pin ds fr o.dst r) {z:r.X}:Goal C fr a w o Q r z:=by
 have hrun:(execOp a.eval o).run C.M w = .ok (.value v) w:=by simp [execOp,ho,Act.eval]
 unfold sConst at hs
 split at hs
 ·split at hs
  ·rename_i e u _
   cases hs
   refine h.plain hc hrun rfl ?_
   simp only [RepE,RepV]
   exact .inl ⟨rfl,rfl,rfl⟩
  ·cases hs
 ·rename_i k q
  exact h.plain1 (t:=.int k) hs hc hrun (by simp [RepV])
 ·exact h.plain1 (t:=.bool) hs hc hrun (by simp [RepV])
 ·exact h.plain1 (t:=.str) hs hc hrun (by simp [RepV])
 ·cases hs
  exact h.plain hc hrun rfl rfl
theorem Ahp {Q:Exit -> Act -> World -> Prop} (h:Sim C fr a w P T) {o:Oper} {t:TypeId} {x i:Operand} (ho:o.op = .index t x i)
  {Tb:Tab} (hT:TabOk C.M Tb) (his:Tb.isV t (opx fr x).1 = true) {r:Res Unit} (hs:sIndex (opx fr x) (opx fr i) = some r) {pin:Nat -> Bool} {ds:List Nat} (hc:OpC C pin ds fr o.dst r) {z:r.X} (hz:r.run () = some z):Goal C fr a w o Q r z:=by
 have key:∀ (f:Unit -> List UInt8) (g:Unit -> Int) (k:IntKind) (z:Int),C.M.underlying t = some .string -> a.eval x = .string ⟨List.toArray (f ())⟩ -> a.eval i = .int k (g ()) ->
   byteAt (f ()) (g ()) = some z -> ∃ v,(execOp a.eval o).run C.M w = .ok (.value v) w /\ RepV C.M (.int .u8) w P .p z v []:=by
  intro f g k z hu hx hi hz
  unfold byteAt at hz
  split at hz
  ·rename_i h0
   cases hb:(f ())[(g ()).toNat]? with
   | none => rw [hb] at hz; cases hz
   | some c =>
    rw [hb] at hz
    cases hz
    have hgb:(⟨List.toArray (f ())⟩:ByteArray)[(g ()).toNat]? = some c:=by
     obtain ⟨hlt,hc⟩:=List.getElem?_eq_some_iff.1 hb
     have hlt':(g ()).toNat < (⟨List.toArray (f ())⟩:ByteArray).size:=by rw [Pb]; exact hlt
     refine (getElem?_pos (⟨List.toArray (f ())⟩:ByteArray) (g ()).toNat hlt').trans (congrArg some ?_)
     show (List.toArray (f ()))[(g ()).toNat]'(by simpa using hlt) = c
     simpa using hc
    refine ⟨.int .u8 (c.toNat:Int),?_,by simp [RepV]⟩
    simp [execOp,ho,Instr.index,hx,hi,asIntOf,run_underlying hu,h0,hgb]
  ·cases hz
 unfold sIndex at hs
 split at hs
 ·rename_i m f k m' g hx hi
  rw [hx] at his
  exact h.plain2 (t:=.int .u8) hs hc hz fun z hz => key f g k z (Tab.of_isV hT his rfl).kind (opx_str h hx) (opx_int h hi) hz
 ·cases hs
end
end Go.Abs
