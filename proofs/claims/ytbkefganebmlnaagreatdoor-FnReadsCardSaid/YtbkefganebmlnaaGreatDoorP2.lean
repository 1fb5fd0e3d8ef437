/-
  The walk of impl.ParseRule over the claims of the functions that it calls. No condition.
-/
import Derived.Test.YtbkefganebmlnaaGreatDoorP1
import Derived.Test.YtbkefganebmlnaaGreatDoorProg
import Derived.KernelRfl
import Derived.WalkKit
import Derived.WalkSpells
import Derived.WalkLawsBesides
import Derived.Deep.QuietTactic
import Derived.Deep.LoopGhost
import Derived.Deep.RegionHeld3
import Derived.Deep.DrawnRows
import Derived.BigQuiet
import Derived.ProofKit
import Derived.OpenShut
import Derived.Lib.Hide
import Derived.Laws.ResultCell
namespace Go.Proofs
set_option linter.unusedVariables false
set_option linter.unusedSimpArgs false
open Go.RowKit Go.Abs
theorem prot_lt {w:World} {P:Prot} {b o:Nat} (ht:There w P) (h:P b o):b < w.heap.size:=by
  obtain ⟨v,hv⟩:=ht b o h
  exact World.block_lt_of_cell? w ⟨b,o,none⟩ hv
theorem Q9 {w w':World} {P P':Prot} {b:Nat} (hp:PExt [] w P w' P') (hlt:b < w.heap.size) (hn:∀ o,¬ P b o):∀ o,¬ P' b o:=fun o ho => by
  rcases hp.old _ _ ho with h | h | h
  · exact hn o h
  · omega
  · simp at h
theorem St {w:World} {P:Prot} (ht:There w P):PExt [] w P w.drew P:=⟨rfl,rfl,rfl,Nat.le_refl _,fun _ _ _ => rfl,by simp,fun _ _ h => h,fun _ _ h => .inl h,ht⟩
theorem pext_al {wa w:World} {Pa P:Prot} (h:PExt [] wa Pa w P) (o:Obj):PExt [] wa Pa (w.alloc o) P:=h.trans0 (Y6 ((Below.refl _ _).alloc (Nat.le_refl _) _) h.there)
theorem size_al (w:World) (o:Obj):(w.alloc o).heap.size = w.heap.size + 1:=by simp
theorem Py {B:Base} {M:Program} {f:FuncId} {ps:List Ty} {im m:Md} {r:Ty} {F:Ty.dens ps -> Unit -> Option (r.den × Unit)} (hs:SigB B M f ⟨ps,[],none,im,r,m,F⟩) (hnh:r.nh m = true) {w:World} {P:Prot} (hb:BaseOk M B w P) (ht:There w P)
    {xs:Ty.dens ps} {vs:List Value} (ha:RepVs M ps w P .p xs vs []) {y:r.den} (hy:(F xs ()).map (·.1) = some y) :
    Calls M f vs.toArray w fun e w' => ∃ u P',e = .returned u /\ PExt [] w P w' P' /\ RepV M r w' P' .p y u []:=by
  obtain ⟨y2,hy2,rfl⟩:=Option.map_eq_some_iff.1 hy
  have:=Adz hs hb ht (ys:=()) (caps:=[]) ha rfl hy2
  rw [List.append_nil] at this
  refine this.mono ?_
  rintro e w' ⟨u,P1,Tr,rfl,hp,hrep,hnd,hsub⟩
  exact ⟨u,P1.add w' Tr,rfl,hp.add fun b hb => .inl (hsub b hb).1,RepV.freeze (Later.add w' P1 Tr) r hrep hnh fun b hb o v hv => .inr ⟨hb,v,hv⟩⟩
theorem txts_at {M:Program} {w:World} {P:Prot} {xs:List Txt} {v:Value} (h:RepV M (.sl 9 .str) w P .p xs v []):∃ a cap,v = .slice a xs.length cap /\ xs.length <= cap /\ (∀ (i:Nat) (x:Txt),xs[i]? = some x -> ∃ b o,a = some ⟨b,o,none⟩ /\ w.cell? ⟨b,o + i,none⟩ = some (.string ⟨x.toArray⟩) /\ P b (o + i)):=by
  simp only [RepV] at h
  obtain ⟨-,⟨rfl,a,rfl⟩ | ⟨b,off,cap,cells,rfl,hcp,hL,hcl,hcs⟩⟩:=h
  · exact ⟨a,0,rfl,Nat.le_refl _,fun i x hi => by cases i <;> cases hi⟩
  · refine ⟨_,cap,rfl,hcp,fun i x hi => ⟨b,off,rfl,?_⟩⟩
    have hc:=T9 hL
    subst hc
    exact hcs i _ (by rw [List.getElem?_map,hi]; rfl)
theorem prjU_at {M:Program} {w:World} {P:Prot} {x:prjU.den} {v:Value} (h:RepV M prjU w P .p x v []):∃ n a1 n1 c1 a2 n2 c2 a3 n3 c3 a4 n4 c4,v = .agg #[.int .i64 n,.slice a1 n1 c1,.slice a2 n2 c2,.slice a3 n3 c3,.slice a4 n4 c4]:=by
  simp only [RepV,RepCs,RepC] at h
  obtain ⟨cs,rfl,c1,d1,T1,U1,rfl,-,⟨rfl,-⟩,c2,d2,T2,U2,rfl,-,⟨v2,rfl,h2⟩,c3,d3,T3,U3,rfl,-,⟨v3,rfl,h3⟩,c4,d4,T4,U4,rfl,-,⟨v4,rfl,h4⟩,c5,d5,T5,U5,rfl,-,⟨v5,rfl,h5⟩,rfl,-⟩:=h
  have sl:∀ {α:Type} {R:Md -> α -> List Value -> List Nat -> Prop} {e:TypeId} {s:Nat} {x:List α} {v:Value} {T:List Nat},RepSl R e s w P .p x v T -> ∃ a n c,v = .slice a n c:=fun h => by
    obtain ⟨-,⟨-,a,rfl⟩ | ⟨b,off,cap,cells,rfl,-⟩⟩:=h
    · exact ⟨a,0,0,rfl⟩
    · exact ⟨_,_,_,rfl⟩
  obtain ⟨a1,n1,c1,rfl⟩:=sl h2
  obtain ⟨a2,n2,c2,rfl⟩:=sl h3
  obtain ⟨a3,n3,c3,rfl⟩:=sl h4
  obtain ⟨a4,n4,c4,rfl⟩:=sl h5
  exact ⟨_,a1,n1,c1,a2,n2,c2,a3,n3,c3,a4,n4,c4,rfl⟩
theorem set4 {w:World} {P:Prot} (ht:There w P) {b:Nat} {u0 u1 u2 u3:Value} {e:TypeId} {c0 c1 c2 c3:Value} (hb:∀ o,¬ P b o) (hr:w.heap[b]? = some (.cells #[c0,c1,c2,c3] e (0,0))) :
    PExt [b] w P ((((w.setCell ⟨b,0,none⟩ u0).setCell ⟨b,1,none⟩ u1).setCell ⟨b,2,none⟩ u2).setCell ⟨b,3,none⟩ u3) P /\ ((((w.setCell ⟨b,0,none⟩ u0).setCell ⟨b,1,none⟩ u1).setCell ⟨b,2,none⟩ u2).setCell ⟨b,3,none⟩ u3).heap[b]? = some (.cells #[u0,u1,u2,u3] e (0,0)):=by
  have q1:=Ns (w:=w) (P:=P) ht (o:=0) (v:=u0) hb
  have q2:=Ns (w:=w.setCell ⟨b,0,none⟩ u0) (P:=P) q1.there (o:=1) (v:=u1) hb
  have q3:=Ns (w:=(w.setCell ⟨b,0,none⟩ u0).setCell ⟨b,1,none⟩ u1) (P:=P) q2.there (o:=2) (v:=u2) hb
  have q4:=Ns (w:=((w.setCell ⟨b,0,none⟩ u0).setCell ⟨b,1,none⟩ u1).setCell ⟨b,2,none⟩ u2) (P:=P) q3.there (o:=3) (v:=u3) hb
  refine ⟨((q1.trans q2 fun b hb => .inr hb).trans q3 fun b hb => .inr hb).trans q4 fun b hb => .inr hb,?_⟩
  have:=Nt (Nt (Nt (Nt hr 0 u0) 1 u1) 2 u2) 3 u3
  simpa using this
theorem four_at {w:World} {b:Nat} {v0 v1 v2 v3:Value} {e:TypeId} (h:w.heap[b]? = some (.cells #[v0,v1,v2,v3] e (0,0))) :
    (w.cell? ⟨b,0,none⟩ = some v0 /\ w.cell? ⟨b,1,none⟩ = some v1 /\ w.cell? ⟨b,2,none⟩ = some v2 /\ w.cell? ⟨b,3,none⟩ = some v3) /\ (w.frozen? ⟨b,0,none⟩ = false /\ w.frozen? ⟨b,1,none⟩ = false /\ w.frozen? ⟨b,2,none⟩ = false /\ w.frozen? ⟨b,3,none⟩ = false):=
  ⟨⟨by rw [cell_of h]; rfl,by rw [cell_of h]; rfl,by rw [cell_of h]; rfl,by rw [cell_of h]; rfl⟩,Mx h _,Mx h _,Mx h _,Mx h _⟩
theorem Agw {w:World} {b:Nat} {v0 v1 v2:Value} {e:TypeId} (h:w.heap[b]? = some (.cells #[v0,v1,v2] e (0,0))) :
    (w.cell? ⟨b,0,none⟩ = some v0 /\ w.cell? ⟨b,1,none⟩ = some v1 /\ w.cell? ⟨b,2,none⟩ = some v2) /\ (w.frozen? ⟨b,0,none⟩ = false /\ w.frozen? ⟨b,1,none⟩ = false /\ w.frozen? ⟨b,2,none⟩ = false):=
  ⟨⟨by rw [cell_of h]; rfl,by rw [cell_of h]; rfl,by rw [cell_of h]; rfl⟩,Mx h _,Mx h _,Mx h _⟩
theorem five_at {w:World} {b:Nat} {v0 v1 v2 v3 v4:Value} {e:TypeId} (h:w.heap[b]? = some (.cells #[v0,v1,v2,v3,v4] e (0,0))) :
    w.cell? ⟨b,0,none⟩ = some v0 /\ w.cell? ⟨b,1,none⟩ = some v1 /\ w.cell? ⟨b,2,none⟩ = some v2 /\ w.cell? ⟨b,3,none⟩ = some v3 /\ w.cell? ⟨b,4,none⟩ = some v4:=
  ⟨by rw [cell_of h]; rfl,by rw [cell_of h]; rfl,by rw [cell_of h]; rfl,by rw [cell_of h]; rfl,by rw [cell_of h]; rfl⟩
/-- what holds while the words are read: the rule and the fields, of one's own -/
structure PrS (wA:World) (PA:Prot) (b7 b8:Nat) (k:Int) (f:Int × Int × Int) (w:World) (P:Prot):Prop where
  ext:PExt [b7,b8] wA PA w P
  n7:∀ o,¬ P b7 o
  n8:∀ o,¬ P b8 o
  r7:w.heap[b7]? = some (.cells #[.int .i64 k,.int .i64 0,.int .i64 0,.int .i64 0] 60 (0,0))
  r8:w.heap[b8]? = some (.cells #[.int .i64 f.1,.int .i64 f.2.1,.int .i64 f.2.2] 141 (0,0))
section
variable {wA w w':World} {PA P P':Prot} {b7 b8:Nat} {k:Int} {f:Int × Int × Int}
theorem PrS.later (h:PrS wA PA b7 b8 k f w P) (hp:PExt [] w P w' P'):PrS wA PA b7 b8 k f w' P':=
  ⟨h.ext.trans hp (by simp),Q9 hp (Array.getElem?_eq_some_iff.1 h.r7).1 h.n7,Q9 hp (Array.getElem?_eq_some_iff.1 h.r8).1 h.n8,
    (hp.block _ (Array.getElem?_eq_some_iff.1 h.r7).1 (by simp)).trans h.r7,(hp.block _ (Array.getElem?_eq_some_iff.1 h.r8).1 (by simp)).trans h.r8⟩
theorem PrS.kind (h:PrS wA PA b7 b8 k f w P) (hne:b7 ≠ b8) (k':Int):PrS wA PA b7 b8 k' f (w.setCell ⟨b7,0,none⟩ (.int .i64 k')) P:=by
  have q:=Ns (w:=w) (P:=P) h.ext.there (o:=0) (v:=.int .i64 k') h.n7
  refine ⟨h.ext.trans q fun b hb => .inr (by simp at hb; simp [hb]),h.n7,h.n8,?_,?_⟩
  · have:=Nt h.r7 0 (.int .i64 k')
    simpa using this
  · rw [Qg (fun e => hne e.symm)]; exact h.r8
theorem PrS.field (h:PrS wA PA b7 b8 k f w P) (hne:b7 ≠ b8) {j:Nat} (hj:j < 3) (m:Int):PrS wA PA b7 b8 k (put3 f j m) (w.setCell ⟨b8,j,none⟩ (.int .i64 m)) P:=by
  have q:=Ns (w:=w) (P:=P) h.ext.there (o:=j) (v:=.int .i64 m) h.n8
  refine ⟨h.ext.trans q fun b hb => .inr (by simp at hb; simp [hb]),h.n7,h.n8,?_,?_⟩
  · rw [Qg hne]; exact h.r7
  · have:=Nt h.r8 j (.int .i64 m)
    rw [this]
    have hc:j = 0 \/ j = 1 \/ j = 2:=by omega
    rcases hc with rfl | rfl | rfl <;> simp [put3]
end
theorem keep3 {w:World} {b b' o':Nat} {u v0 v1 v2:Value} (hne:b ≠ b') (h:w.cell? ⟨b,0,none⟩ = some v0 /\ w.cell? ⟨b,1,none⟩ = some v1 /\ w.cell? ⟨b,2,none⟩ = some v2) :
    (w.setCell ⟨b',o',none⟩ u).drew.cell? ⟨b,0,none⟩ = some v0 /\ (w.setCell ⟨b',o',none⟩ u).drew.cell? ⟨b,1,none⟩ = some v1 /\ (w.setCell ⟨b',o',none⟩ u).drew.cell? ⟨b,2,none⟩ = some v2:=by
  have hb:(w.setCell ⟨b',o',none⟩ u).drew.heap[b]? = w.heap[b]?:=Qg hne
  exact ⟨(World.cell?_of_block hb).trans h.1,(World.cell?_of_block hb).trans h.2.1,(World.cell?_of_block hb).trans h.2.2⟩
theorem set13 {w:World} {P:Prot} (ht:There w P) {b:Nat} {u0 u1 u2 u3:Value} {e:TypeId} {c1 c2 c3:Value} (hb:∀ o,¬ P b o) (hr:w.heap[b]? = some (.cells #[u0,c1,c2,c3] e (0,0))) :
    PExt [b] w P (((w.setCell ⟨b,1,none⟩ u1).setCell ⟨b,2,none⟩ u2).setCell ⟨b,3,none⟩ u3).drew P /\ (((w.setCell ⟨b,1,none⟩ u1).setCell ⟨b,2,none⟩ u2).setCell ⟨b,3,none⟩ u3).drew.heap[b]? = some (.cells #[u0,u1,u2,u3] e (0,0)):=by
  have q2:=Ns (w:=w) (P:=P) ht (o:=1) (v:=u1) hb
  have q3:=Ns (w:=w.setCell ⟨b,1,none⟩ u1) (P:=P) q2.there (o:=2) (v:=u2) hb
  have q4:=Ns (w:=(w.setCell ⟨b,1,none⟩ u1).setCell ⟨b,2,none⟩ u2) (P:=P) q3.there (o:=3) (v:=u3) hb
  refine ⟨((q2.trans q3 fun b hb => .inr hb).trans q4 fun b hb => .inr hb).trans (St q4.there) (by simp),?_⟩
  have:=Nt (Nt (Nt hr 1 u1) 2 u2) 3 u3
  show (((w.setCell ⟨b,1,none⟩ u1).setCell ⟨b,2,none⟩ u2).setCell ⟨b,3,none⟩ u3).heap[b]? = _
  simpa using this
theorem rul_rep {M:Program} {w:World} {P:Prot} {r1 r2 r3 r4:Int}:RepV M rulU w P .p ((r1,r2,r3,r4,()):Rul) (.agg #[.int .i64 r1,.int .i64 r2,.int .i64 r3,.int .i64 r4]) []:=by
  simp only [RepV,RepCs,RepC]
  exact ⟨[.int .i64 r1,.int .i64 r2,.int .i64 r3,.int .i64 r4],rfl,_,_,[],[],rfl,rfl,⟨rfl,rfl⟩,_,_,[],[],rfl,rfl,⟨rfl,rfl⟩,_,_,[],[],rfl,rfl,⟨rfl,rfl⟩,_,_,[],[],rfl,rfl,⟨rfl,rfl⟩,rfl,rfl⟩
set_option maxRecDepth 100000 in
theorem Tryz.pr_post {w0 w:World} {P0 P:Prot} {b4:Nat} {r:Rul} {f:Bool} {c0 c1 c2 c3:Value} {vs:List Value} (hp:PExt [] w0 P0 w P) (h4:w0.heap.size <= b4) (hn4:∀ o,¬ P b4 o) (hr4:w.heap[b4]? = some (.cells #[c0,c1,c2,c3] 60 (0,0)))
    {a:Act} (hd:a.defers = []) (ha4:a.tmps.getD 4 undef = .pointer (some ⟨b4,0,none⟩)) (ha5:a.tmps.getD 5 undef = .bool f) :
    bodyPost Tryz.prog Tryz.f22 (fun e w' => ∃ u P' Tr Tq,e = .returned u /\ PExt [] w0 P0 w' P' /\ RepV Tryz.prog (.tup [rulU,.bool]) w' P' .p (r,f,()) u Tr /\ IoR Tryz.prog w' P' .p [prjU,.str] none () vs Tq /\ (Tr ++ Tq).Nodup /\ ∀ (b:Nat),b ∈ Tr ++ Tq -> b ∈ [] \/ w0.heap.size <= b /\ b < w'.heap.size) .ret a
      ((((w.setCell ⟨b4,0,none⟩ (.int .i64 r.1)).setCell ⟨b4,1,none⟩ (.int .i64 r.2.1)).setCell ⟨b4,2,none⟩ (.int .i64 r.2.2.1)).setCell ⟨b4,3,none⟩ (.int .i64 r.2.2.2.1)):=by
  obtain ⟨q,qr⟩:=set4 (u0:=.int .i64 r.1) (u1:=.int .i64 r.2.1) (u2:=.int .i64 r.2.2.1) (u3:=.int .i64 r.2.2.2.1) hp.there hn4 hr4
  obtain ⟨r1,r2,r3,r4,⟨⟩⟩:=r
  refine bodyPost_ret (P:=Tryz.prog) (fn:=Tryz.f22) (v:=.tuple #[.agg #[.int .i64 r1,.int .i64 r2,.int .i64 r3,.int .i64 r4],.bool f]) ?_ hd ?_
  · rw [results_cell_tmp rfl,ha4,ha5]
    simp [asAddr,Result.andThen]
    rw [run_loadVar_row _ _ 60 60 _ _ _ qr Tryz.underlying60 rfl rfl]
  · refine ⟨_,P,[],[],rfl,hp.trans q fun b hb => ?_,?_,rfl,by simp,fun b hb => by simp at hb⟩
    · simp at hb
      exact .inl (by omega)
    · simp only [RepV,RepVs,RepCs,RepC,Md.hd,Md.tl]
      refine ⟨[.agg #[.int .i64 r1,.int .i64 r2,.int .i64 r3,.int .i64 r4],.bool f],rfl,.agg #[.int .i64 r1,.int .i64 r2,.int .i64 r3,.int .i64 r4],[.bool f],[],[],rfl,by simp,⟨[.int .i64 r1,.int .i64 r2,.int .i64 r3,.int .i64 r4],rfl,?_⟩,.bool f,[],[],[],rfl,rfl,⟨rfl,rfl⟩,rfl,rfl⟩
      exact ⟨_,_,[],[],rfl,rfl,⟨rfl,rfl⟩,_,_,[],[],rfl,rfl,⟨rfl,rfl⟩,_,_,[],[],rfl,rfl,⟨rfl,rfl⟩,_,_,[],[],rfl,rfl,⟨rfl,rfl⟩,rfl,rfl⟩
theorem post_re {M:Program} {fn:Func} {R R':Ending -> World -> Prop} {a:Act} {w:World} (h:bodyPost M fn R .ret a w) (hr:∀ e w',R e w' -> R' e w'):bodyPost M fn R' .ret a w:=by
  obtain ⟨hd,v,h1,h2⟩:=h
  exact ⟨hd,v,h1,hr _ _ h2⟩
attribute [local go_sem ↓] Go.wp_at_zero Go.wp_at_succ
set_option maxRecDepth 100000 in
set_option maxHeartbeats 4000000 in
theorem Tryz.pr_ok {B:Base} {FS:Ty.dens [.str,.str] -> Unit -> Option (List Txt × Unit)} {FP:Ty.dens [.str] -> Unit -> Option ((Int × Bool × Unit) × Unit)} {FA:Ty.dens [prjU,.str] -> Unit -> Option (Int × Unit)} {FF:Ty.dens [prjU,rulU] -> Unit -> Option (Txt × Unit)}
    (hS:SigB B Tryz.prog 58 ⟨[.str,.str],[],none,.p,.sl 9 .str,Ty.all (.sl 9 .str),FS⟩) (hP:SigB B Tryz.prog 59 ⟨[.str],[],none,.p,.tup [.int .i64,.bool],.p,FP⟩) (hA:SigB B Tryz.prog 30 ⟨[prjU,.str],[],none,.p,.int .i64,.p,FA⟩) (hF:SigB B Tryz.prog 23 ⟨[prjU,rulU],[],none,.p,.str,.p,FF⟩)
    (hR:∀ (n:Int) (w:World),Calls Tryz.prog 83 #[.int .i64 n] w fun e w' => e = .returned (.string ⟨(ruleOf n).toArray⟩) /\ Below w.heap.size w w') :
    SigB B Tryz.prog 22 ⟨[prjU,.str],[],none,.p,.tup [rulU,.bool],.p,prF FS FP FA FF⟩:=by
  refine ⟨⟨Tryz.f22,Tryz.func22,by decide,rfl⟩,fun w P xs ys vs caps Ti y hb ht hv hTi hTp hcap hy => ?_⟩
  obtain ⟨p,s,u⟩:=xs
  change prjU.den at p
  change Txt at s
  cases u
  change (Rul × Bool × Unit) × Unit at y
  replace hv:ArgsR Tryz.prog w P .p none [prjU,.str] (p,s,()) vs Ti:=hv
  replace hcap:caps = []:=hcap
  replace hy:prF FS FP FA FF (p,s,()) ys = some y:=hy
  simp only [ArgsR] at hv
  obtain ⟨v0,r,rfl,h0,v1,r1,rfl,h1,rfl,rfl⟩:=hv
  subst hcap
  simp only [RepV] at h1
  obtain ⟨rfl,-⟩:=h1
  obtain ⟨n0,a1,n1,c1,a2,n2,c2,a3,n3,c3,a4,n4,c4,rfl⟩:=prjU_at h0
  unfold prF at hy
  obtain ⟨ws,hFS,hy2⟩:=Option.bind_eq_some_iff.1 hy
  obtain ⟨wa,hwa⟩:∃ wa,wa = (w.alloc (.cells #[.int .i64 n0,.slice a1 n1 c1,.slice a2 n2 c2,.slice a3 n3 c3,.slice a4 n4 c4] 37)).alloc (.cells #[.int .i64 0,.int .i64 0,.int .i64 0,.int .i64 0] 60):=⟨_,rfl⟩
  have hp1:PExt [] w P wa P:=by rw [hwa]; exact pext_al (pext_al (PExt.refl ht) _) _
  have ha2:wa.heap[w.heap.size]? = some (.cells #[.int .i64 n0,.slice a1 n1 c1,.slice a2 n2 c2,.slice a3 n3 c3,.slice a4 n4 c4] 37 (0,0)):=by
    rw [hwa,heap_alloc_old _ _ (by rw [size_al]; omega)]; exact heap_alloc_new _ _
  have ha4:wa.heap[w.heap.size + 1]? = some (.cells #[.int .i64 0,.int .i64 0,.int .i64 0,.int .i64 0] 60 (0,0)):=by
    rw [hwa,<- size_al w (.cells #[.int .i64 n0,.slice a1 n1 c1,.slice a2 n2 c2,.slice a3 n3 c3,.slice a4 n4 c4] 37)]; exact heap_alloc_new _ _
  have hf:∀ b,w.heap.size <= b -> ∀ o,¬ P b o:=fun b hb o ho => by have:=prot_lt ht ho; omega
  have hcall:=Py hS rfl (hb.later hp1.later) hp1.there (xs:=(s,[32],())) (vs:=[.string ⟨List.toArray s⟩,.string ⟨#[32]⟩]) (y:=ws) (by
    simp only [RepVs,Md.hd,Md.tl]
    exact ⟨_,_,[],[],rfl,rfl,(by simp [RepV]),_,_,[],[],rfl,rfl,(by simp [RepV]),rfl,rfl⟩) hFS
  have X:AsideQ (BaseOk Tryz.prog B w P /\ There w P /\ RepV Tryz.prog prjU w P .p p (.agg #[.int .i64 n0,.slice a1 n1 c1,.slice a2 n2 c2,.slice a3 n3 c3,.slice a4 n4 c4]) []):=⟨hb,ht,h0⟩
  have XY:=AsideQ.mk hy2
  have SG:=AsideQ.mk (And.intro hP (And.intro hA (And.intro hF hR)))
  have HA:=AsideQ.mk (And.intro hp1 (And.intro ha2 (And.intro ha4 hf)))
  have hsz:wa.heap.size = w.heap.size + 1 + 1:=by rw [hwa]; simp only [size_al]
  clear hb ht h0 hy hy2 hS hP hA hF hR hFS hp1 hTi hTp ha2 ha4 hf
  go_enter Tryz.func22,Tryz.ntmps22
  go_wp2_with fail
  rw [<- hwa]
  refine hcall.mono ?_
  rintro e w1 ⟨u,P1,rfl,hp2,hr2⟩
  obtain ⟨aw,cw,rfl,hcw,hw⟩:=txts_at hr2
  clear hcall hwa
  cases ws with
  | nil => exact absurd (show (none:Option ((Rul × Bool × Unit) × Unit)) = some y from XY.out) (by simp)
  | cons w0 rest =>
    obtain ⟨o,hL,hy⟩:=Option.bind_eq_some_iff.1 (show Option.bind _ _ = some y from XY.out)
    obtain ⟨bw,ow,rfl,hc0,hp0⟩:=hw 0 w0 rfl
    have hz1:=hp2.size
    have hbw:bw < w1.heap.size:=World.block_lt_of_cell? w1 ⟨bw,ow + 0,none⟩ hc0
    obtain ⟨wA,hwA⟩:∃ wA,wA = (w1.alloc (.cells #[.int .i64 0,.int .i64 0,.int .i64 0,.int .i64 0] 60)).alloc (.cells #[.int .i64 0,.int .i64 0,.int .i64 0] 141):=⟨_,rfl⟩
    have hq:PExt [] w1 P1 wA P1:=by rw [hwA]; exact pext_al (pext_al (PExt.refl hp2.there) _) _
    have hszA:wA.heap.size = w1.heap.size + 1 + 1:=by rw [hwA]; simp only [size_al]
    have r7:wA.heap[w1.heap.size]? = some (.cells #[.int .i64 0,.int .i64 0,.int .i64 0,.int .i64 0] 60 (0,0)):=by
      rw [hwA,heap_alloc_old _ _ (by rw [size_al]; omega)]; exact heap_alloc_new _ _
    have r8:wA.heap[w1.heap.size + 1]? = some (.cells #[.int .i64 0,.int .i64 0,.int .i64 0] 141 (0,0)):=by
      rw [hwA,<- size_al w1 (.cells #[.int .i64 0,.int .i64 0,.int .i64 0,.int .i64 0] 60)]; exact heap_alloc_new _ _
    have hfr:∀ b,w1.heap.size <= b -> ∀ o,¬ P1 b o:=fun b hb o ho => by have:=prot_lt hp2.there ho; omega
    have S0:AsideQ (PrS wA P1 w1.heap.size (w1.heap.size + 1) 0 (0,0,0) wA P1):=
      ⟨⟨rfl,rfl,rfl,Nat.le_refl _,fun _ _ _ => rfl,fun k hk o ho => hfr k (by simp at hk; omega) o ho,fun _ _ h => h,fun _ _ h => .inl h,hq.there⟩,hfr _ (Nat.le_refl _),hfr _ (by omega),r7,r8⟩
    have R1:AsideQ (PExt [] w P wA P1 /\ wA.heap[w.heap.size]? = some (.cells #[.int .i64 n0,.slice a1 n1 c1,.slice a2 n2 c2,.slice a3 n3 c3,.slice a4 n4 c4] 37 (0,0)) /\ wA.heap[w.heap.size + 1]? = some (.cells #[.int .i64 0,.int .i64 0,.int .i64 0,.int .i64 0] 60 (0,0)) /\ (∀ o,¬ P1 (w.heap.size + 1) o)):=
      ⟨(HA.out.1.trans0 hp2).trans0 hq,by rw [hq.block _ (by omega) (by simp),hp2.block _ (by omega) (by simp)]; exact HA.out.2.1,by rw [hq.block _ (by omega) (by simp),hp2.block _ (by omega) (by simp)]; exact HA.out.2.2.1,Q9 hp2 (by omega) (HA.out.2.2.2 _ (by omega))⟩
    have WD:AsideQ (∀ (i:Nat) (x:Txt),(w0 :: rest)[i]? = some x -> ∀ (wz:World),wz.heap[bw]? = wA.heap[bw]? -> wz.cell? ⟨bw,ow + i,none⟩ = some (.string ⟨x.toArray⟩)):=⟨fun i x hx wz hwz => by
      obtain ⟨b,o2,e,hc,-⟩:=hw i x hx
      cases e
      rw [World.cell?_of_block (show wz.heap[bw]? = w1.heap[bw]? from hwz.trans (hq.block _ hbw (by simp)))]
      exact hc⟩
    have HL:=AsideQ.mk hL
    have HY:=AsideQ.mk hy
    have hlen:(List.length (w0 :: rest)) = rest.length + 1:=rfl
    clear HA hp2 hr2 hw hc0 hp0 hq r7 r8 hfr hL hy XY
    generalize hwl:List.length (w0 :: rest) = nw at *
    go_wp2
    rw [<- hwA]
    go_loopg [9] 6 (fun k s9 wr => ∃ (j:Nat) (kd:Int) (Pr:Prot),s9 = .int .i64 (j:Int) /\ AsideQ (j + k = 7 /\ prK w0 k j kd = prK w0 6 1 0 /\ PrS wA P1 w1.heap.size (w1.heap.size + 1) kd (0,0,0) wr Pr))
    case atStart => exact ⟨1,0,P1,rfl,⟨rfl,rfl,S0.out⟩⟩
    case round =>
      clear S0
      obtain ⟨j,kd,Pr,rfl,Y⟩:=hrel
      cases gk with
      | zero =>
        have hj:¬ ((j:Int) <= 6):=by have:=Y.out.1; omega
        have hkd:kd = prK w0 6 1 0:=Y.out.2.1
        subst hkd
        have Y2:=AsideQ.mk Y.out.2.2
        clear Y
        generalize prK w0 6 1 0 = kd at *
        have hcw':rest.length + 1 <= cw:=by omega
        go_wp2
        all_goals
          go_loopg [33] rest.length (fun k s33 wr => ∃ (j:Nat) (f:Int × Int × Int) (Pr:Prot),s33 = .int .i64 (j:Int) /\ AsideQ (j + k = rest.length /\ j <= 3 /\ prL (fun w => (FP (w,()) ()).map (·.1)) (fun w => (FA (p,w,()) ()).map (·.1)) (rest.drop j) j f = some o /\ PrS wA P1 w1.heap.size (w1.heap.size + 1) kd f wr Pr))
          case atStart => exact ⟨0,(0,0,0),Pr,rfl,⟨by omega,by omega,HL.out,Y2.out⟩⟩
          case round =>
            clear Y2
            obtain ⟨j,f,Pr,rfl,Y⟩:=hrel
            have NX:AsideQ (∀ (wz:World) (Pz:Prot),PExt [] wr Pr wz Pz -> wz.heap[w.heap.size]? = some (.cells #[.int .i64 n0,.slice a1 n1 c1,.slice a2 n2 c2,.slice a3 n3 c3,.slice a4 n4 c4] 37 (0,0)) /\ wz.heap[w.heap.size + 1]? = some (.cells #[.int .i64 0,.int .i64 0,.int .i64 0,.int .i64 0] 60 (0,0)) /\
                PExt [] w P wz Pz /\ (∀ o,¬ Pz (w.heap.size + 1) o) /\ PrS wA P1 w1.heap.size (w1.heap.size + 1) kd f wz Pz):=⟨fun wz Pz hp => by
              have hs:=Y.out.2.2.2.later hp
              refine ⟨(hs.ext.block _ (by omega) (by simp; omega)).trans R1.out.2.1,(hs.ext.block _ (by omega) (by simp; omega)).trans R1.out.2.2.1,R1.out.1.trans hs.ext fun b hb => .inl (by simp at hb; omega),fun o ho => ?_,hs⟩
              rcases hs.ext.old _ _ ho with h | h | h
              · exact R1.out.2.2.2 o h
              · omega
              · simp at h; omega⟩
            have hthere:=Y.out.2.2.2.ext.there
            cases gk with
            | zero =>
              have hj:¬ ((j:Int) < (rest.length:Int)):=by have:=Y.out.1; omega
              have hd:rest.drop j = []:=by rw [show j = rest.length by have:=Y.out.1; omega]; exact List.drop_length
              have hL:=Y.out.2.2.1
              rw [hd] at hL
              have ho:o = some f:=(Option.some.inj (show some (some f) = some o from hL)).symm
              subst ho
              have HN:=AsideQ.mk (NX.out wr Pr (PExt.refl hthere))
              obtain ⟨⟨g0,g1,g2⟩,-⟩:=Agw HN.out.2.2.2.2.r8
              obtain ⟨⟨e0,e1,e2,e3⟩,f0,f1,f2,f3⟩:=four_at HN.out.2.2.2.2.r7
              have hne:w1.heap.size + 1 ≠ w1.heap.size:=by omega
              clear hL hd NX Y HL hthere
              have S0:wr.cell? ⟨w1.heap.size + 1,0,none⟩ = some (.int .i64 f.1) /\ wr.cell? ⟨w1.heap.size + 1,1,none⟩ = some (.int .i64 f.2.1) /\ wr.cell? ⟨w1.heap.size + 1,2,none⟩ = some (.int .i64 f.2.2):=⟨g0,g1,g2⟩
              go_wp2
              go_region_held3 (fun w' => w'.cell? ⟨w1.heap.size + 1,0,none⟩ = some (.int .i64 f.1) /\ w'.cell? ⟨w1.heap.size + 1,1,none⟩ = some (.int .i64 f.2.1) /\ w'.cell? ⟨w1.heap.size + 1,2,none⟩ = some (.int .i64 f.2.2))
                (first | exact S0 | exact keep3 hne S0 | exact keep3 hne (keep3 hne S0) | exact keep3 hne (keep3 hne (keep3 hne S0)) | fail)
                (first | fail)
              obtain ⟨qz,rz⟩:=set13 (u1:=.int .i64 f.1) (u2:=.int .i64 f.2.1) (u3:=.int .i64 f.2.2) HN.out.2.2.1.there HN.out.2.2.2.2.n7 HN.out.2.2.2.2.r7
              generalize (((wr.setCell ⟨w1.heap.size,1,none⟩ (.int .i64 f.1)).setCell ⟨w1.heap.size,2,none⟩ (.int .i64 f.2.1)).setCell ⟨w1.heap.size,3,none⟩ (.int .i64 f.2.2)).drew = wz at *
              have hlt:w.heap.size + 1 < wr.heap.size:=(Array.getElem?_eq_some_iff.1 HN.out.2.1).1
              have HZ:AsideQ (wz.heap[w.heap.size]? = some (.cells #[.int .i64 n0,.slice a1 n1 c1,.slice a2 n2 c2,.slice a3 n3 c3,.slice a4 n4 c4] 37 (0,0)) /\ wz.heap[w.heap.size + 1]? = some (.cells #[.int .i64 0,.int .i64 0,.int .i64 0,.int .i64 0] 60 (0,0)) /\ PExt [] w P wz Pr /\ (∀ o,¬ Pr (w.heap.size + 1) o) /\ wz.heap[w1.heap.size]? = some (.cells #[.int .i64 kd,.int .i64 f.1,.int .i64 f.2.1,.int .i64 f.2.2] 60 (0,0))):=
                ⟨(qz.block _ (by omega) (by simp; omega)).trans HN.out.1,(qz.block _ hlt (by simp; omega)).trans HN.out.2.1,HN.out.2.2.1.trans qz fun b hb => .inl (by simp at hb; omega),HN.out.2.2.2.1,rz⟩
              have HYY:AsideQ ((if s = [] then some (((0,0,0,0,()),false,()),()) else ((FF (p,(kd,f.1,f.2.1,f.2.2,()),()) ()).map (·.1)).bind fun t => if t = s then some (((kd,f.1,f.2.1,f.2.2,()),true,()),()) else some (((0,0,0,0,()),false,()),())) = some y):=⟨HY.out⟩
              clear qz rz S0 g0 g1 g2 e0 e1 e2 e3 f0 f1 f2 f3 HN HY hlt
              obtain ⟨⟨m0,m1,m2,m3⟩,-⟩:=four_at HZ.out.2.2.2.2
              obtain ⟨d0,d1,d2,d3,d4⟩:=five_at HZ.out.1
              by_cases hs:s = []
              · subst hs
                have hyy:=Option.some.inj (show some (((0,0,0,0,()),false,()),()) = some y from HYY.out)
                subst hyy
                obtain ⟨⟨g0,g1,g2,g3⟩,h0,h1,h2,h33⟩:=four_at HZ.out.2.1
                go_wp2
                (try simp only [Exit.inBlock,Exit.then])
                refine post_re (Tryz.pr_post (vs:=[]) (r:=(0,0,0,0,())) (f:=false) HZ.out.2.2.1 (by omega) HZ.out.2.2.2.1 HZ.out.2.1 rfl rfl rfl) ?_
                (rintro e w' ⟨u,P',Tr,Tq,rfl,k1,k2,k3,k4,k5⟩
                 first | exact ⟨u,P',Tr,Tq,rfl,k1,k2,k3,k4,k5⟩ | exact ⟨u,rfl,P',k1,Tr,k2,Tq,k3,k4,fun b hb => by simpa using k5 b (by simpa using hb)⟩ | fail)
              · have hs1:(s == []) = false:=by cases s with | nil => exact absurd rfl hs | cons a l => rfl
                have hs2:s.isEmpty = false:=by cases s with | nil => exact absurd rfl hs | cons a l => rfl
                have hy3:=HYY.out
                rw [if_neg hs] at hy3
                obtain ⟨t,ht,hy4⟩:=Option.bind_eq_some_iff.1 hy3
                have hcall:=Py SG.out.2.2.1 rfl (X.out.1.later HZ.out.2.2.1.later) HZ.out.2.2.1.there (xs:=(p,(kd,f.1,f.2.1,f.2.2,()),())) (vs:=[.agg #[.int .i64 n0,.slice a1 n1 c1,.slice a2 n2 c2,.slice a3 n3 c3,.slice a4 n4 c4],.agg #[.int .i64 kd,.int .i64 f.1,.int .i64 f.2.1,.int .i64 f.2.2]]) (y:=t) (by
                  simp only [RepVs,Md.hd,Md.tl]
                  exact ⟨_,_,[],[],rfl,rfl,keep_p X.out.2.2 HZ.out.2.2.1.later,_,_,[],[],rfl,rfl,rul_rep,rfl,rfl⟩) ht
                have H4:=AsideQ.mk hy4
                clear ht hy3 hy4 HYY
                go_wp2_with fail
                refine hcall.mono ?_
                rintro e w6 ⟨u,P6,rfl,p6,hr6⟩
                simp only [RepV] at hr6
                obtain ⟨rfl,-⟩:=hr6
                have lt6:∀ {b:Nat} {o:Obj},wz.heap[b]? = some o -> w6.heap[b]? = some o:=fun {b o} h => (p6.block _ (Array.getElem?_eq_some_iff.1 h).1 (by simp)).trans h
                have H6:AsideQ (w6.heap[w.heap.size]? = some (.cells #[.int .i64 n0,.slice a1 n1 c1,.slice a2 n2 c2,.slice a3 n3 c3,.slice a4 n4 c4] 37 (0,0)) /\ w6.heap[w.heap.size + 1]? = some (.cells #[.int .i64 0,.int .i64 0,.int .i64 0,.int .i64 0] 60 (0,0)) /\ PExt [] w P w6 P6 /\ (∀ o,¬ P6 (w.heap.size + 1) o) /\ w6.heap[w1.heap.size]? = some (.cells #[.int .i64 kd,.int .i64 f.1,.int .i64 f.2.1,.int .i64 f.2.2] 60 (0,0))):=
                  ⟨lt6 HZ.out.1,lt6 HZ.out.2.1,HZ.out.2.2.1.trans0 p6,Q9 p6 (Array.getElem?_eq_some_iff.1 HZ.out.2.1).1 HZ.out.2.2.2.1,lt6 HZ.out.2.2.2.2⟩
                clear hcall m0 m1 m2 m3 d0 d1 d2 d3 d4 lt6 p6 HZ
                obtain ⟨⟨m0,m1,m2,m3⟩,-⟩:=four_at H6.out.2.2.2.2
                obtain ⟨⟨g0,g1,g2,g3⟩,h0,h1,h2,h33⟩:=four_at H6.out.2.1
                by_cases e:t = s
                · have hyy:=H4.out
                  rw [if_pos e] at hyy
                  have hyy:=Option.some.inj hyy
                  subst hyy
                  have e1:(t == s) = true:=by simp [e]
                  have e2:(t != s) = false:=by simp [e]
                  go_wp2
                  (try simp only [Exit.inBlock,Exit.then])
                  refine post_re (Tryz.pr_post (vs:=[]) (r:=(kd,f.1,f.2.1,f.2.2,())) (f:=true) H6.out.2.2.1 (by omega) H6.out.2.2.2.1 H6.out.2.1 rfl rfl rfl) ?_
                  (rintro e w' ⟨u,P',Tr,Tq,rfl,k1,k2,k3,k4,k5⟩
                   first | exact ⟨u,P',Tr,Tq,rfl,k1,k2,k3,k4,k5⟩ | exact ⟨u,rfl,P',k1,Tr,k2,Tq,k3,k4,fun b hb => by simpa using k5 b (by simpa using hb)⟩ | fail)
                · have hyy:=H4.out
                  rw [if_neg e] at hyy
                  have hyy:=Option.some.inj hyy
                  subst hyy
                  have e1:(t == s) = false:=by simpa using e
                  have e2:(t != s) = true:=by simpa using e
                  go_wp2
                  (try simp only [Exit.inBlock,Exit.then])
                  refine post_re (Tryz.pr_post (vs:=[]) (r:=(0,0,0,0,())) (f:=false) H6.out.2.2.1 (by omega) H6.out.2.2.2.1 H6.out.2.1 rfl rfl rfl) ?_
                  (rintro e w' ⟨u,P',Tr,Tq,rfl,k1,k2,k3,k4,k5⟩
                   first | exact ⟨u,P',Tr,Tq,rfl,k1,k2,k3,k4,k5⟩ | exact ⟨u,rfl,P',k1,Tr,k2,Tq,k3,k4,fun b hb => by simpa using k5 b (by simpa using hb)⟩ | fail)
            | succ k =>
              first
                | (exfalso
                   have:=Y.out.1
                   omega)
                | (have hjl:j < rest.length:=by have:=Y.out.1; omega
                   have hj:(j:Int) < (rest.length:Int):=by omega
                   have hjn:¬ ((j:Int) < 0):=by omega
                   obtain ⟨x,hx⟩:∃ x,rest[j]? = some x:=⟨_,List.getElem?_eq_getElem hjl⟩
                   have hdr:rest.drop j = x :: rest.drop (j + 1):=by
                     rw [List.drop_eq_getElem_cons hjl]
                     rw [List.getElem?_eq_getElem hjl] at hx
                     rw [Option.some.inj hx]
                   have hcx:wr.cell? ⟨bw,ow + 1 + j,none⟩ = some (.string ⟨List.toArray x⟩):=by
                     have:=WD.out (j + 1) x (by simpa using hx) wr (Y.out.2.2.2.ext.block _ (by omega) (by simp; omega))
                     rwa [show ow + (j + 1) = ow + 1 + j by omega] at this
                   have hL:=Y.out.2.2.1
                   rw [hdr] at hL
                   have hL2:(if 2 < j then some none else (((FP (x,()) ()).map (·.1)).bind fun n => (if n.2.1 = true then some n.1 else ((FA (p,x,()) ()).map (·.1))).bind fun m => prL (fun w => (FP (w,()) ()).map (·.1)) (fun w => (FA (p,w,()) ()).map (·.1)) (rest.drop (j + 1)) (j + 1) (put3 f j m))) = some o:=hL
                   have IW:AsideQ (RowKit.wrap64 ((j:Int) + 1) = ((j + 1:Nat):Int)):=⟨by have:=Y.out.2.1; unfold RowKit.wrap64; omega⟩
                   have YA:=AsideQ.mk (And.intro Y.out.1 Y.out.2.1)
                   clear hL hx
                   by_cases h3:2 < j
                   · rw [if_pos h3] at hL2
                     have ho:o = none:=(Option.some.inj hL2).symm
                     subst ho
                     have hyy:=Option.some.inj (show some (((0,0,0,0,()),false,()),()) = some y from HY.out)
                     subst hyy
                     have HN:=AsideQ.mk (NX.out wr Pr (PExt.refl hthere))
                     obtain ⟨⟨g0,g1,g2,g3⟩,h0,h1,h2,h33⟩:=four_at HN.out.2.1
                     have h3':(2:Int) < (j:Int):=by omega
                     clear hL2 hthere NX Y HL
                     go_wp2
                     (try simp only [Exit.inBlock,Exit.then])
                     refine post_re (Tryz.pr_post (vs:=[]) (r:=(0,0,0,0,())) (f:=false) HN.out.2.2.1 (by omega) HN.out.2.2.2.1 HN.out.2.1 rfl rfl rfl) ?_
                     (rintro e w' ⟨u,P',Tr,Tq,rfl,k1,k2,k3,k4,k5⟩
                      first | exact ⟨u,P',Tr,Tq,rfl,k1,k2,k3,k4,k5⟩ | exact ⟨u,rfl,P',k1,Tr,k2,Tq,k3,k4,fun b hb => by simpa using k5 b (by simpa using hb)⟩ | fail)
                   · rw [if_neg h3] at hL2
                     have h3':¬ (2:Int) < (j:Int):=by omega
                     have hj3:(j:Int) < 3:=by omega
                     obtain ⟨n,hFP,hL3⟩:=Option.bind_eq_some_iff.1 hL2
                     obtain ⟨m,hm,hL4⟩:=Option.bind_eq_some_iff.1 hL3
                     obtain ⟨nn,nok,⟨⟩⟩:=n
                     have hb:=X.out.1.later (NX.out wr Pr (PExt.refl hthere)).2.2.1.later
                     have hcall:=Py SG.out.1 rfl hb hthere (xs:=(x,())) (vs:=[.string ⟨List.toArray x⟩]) (y:=(nn,nok,())) (by
                       simp only [RepVs,Md.hd,Md.tl]
                       exact ⟨_,_,[],[],rfl,rfl,(by simp [RepV]),rfl,rfl⟩) hFP
                     have HB:=AsideQ.mk hb
                     have HM:=AsideQ.mk hm
                     have H4:=AsideQ.mk hL4
                     clear hL2 hL3 hL4 hm hb hFP Y HL
                     go_wp2_with fail
                     refine hcall.mono ?_
                     rintro e w5 ⟨u,P5,rfl,p5,hr5⟩
                     simp only [RepV,RepVs,Md.hd,Md.tl] at hr5
                     obtain ⟨vs5,rfl,v5,r5,T1,T2,rfl,-,⟨rfl,-⟩,v6,r6,T3,T4,rfl,-,⟨rfl,-⟩,rfl,-⟩:=hr5
                     clear hcall hcx hthere
                     have h8:∀ (wz:World) (Pz:Prot),PrS wA P1 w1.heap.size (w1.heap.size + 1) kd f wz Pz -> ∃ v,wz.cell? ⟨w1.heap.size + 1,j,none⟩ = some (.int .i64 v):=fun wz Pz hs => by
                       have hc:=cell_of hs.r8 j
                       have hc3:j = 0 \/ j = 1 \/ j = 2:=by omega
                       rcases hc3 with rfl | rfl | rfl
                       · exact ⟨_,hc⟩
                       · exact ⟨_,hc⟩
                       · exact ⟨_,hc⟩
                     have H8:=AsideQ.mk h8
                     clear h8
                     cases nok with
                     | true =>
                       have hmm:nn = m:=Option.some.inj (show some nn = some m from HM.out)
                       subst hmm
                       have HN:=AsideQ.mk (NX.out w5 P5 p5)
                       obtain ⟨v8,c8⟩:=H8.out _ _ HN.out.2.2.2.2
                       have f8:=Mx HN.out.2.2.2.2.r8 j
                       clear NX HB HM p5 H8
                       go_wp2
                       go_roundg k
                       case measure => omega
                       case rel => exact ⟨j + 1,put3 f j nn,P5,by first | rfl | rw [IW.out],⟨by have:=YA.out.1; omega,by omega,H4.out,HN.out.2.2.2.2.field (by omega) (by omega) nn⟩⟩
                     | false =>
                       have hFA:(FA (p,x,()) ()).map (·.1) = some m:=HM.out
                       have hN5:=NX.out w5 P5 p5
                       have hcall:=Py SG.out.2.1 rfl (HB.out.later p5.later) p5.there (xs:=(p,x,())) (vs:=[.agg #[.int .i64 n0,.slice a1 n1 c1,.slice a2 n2 c2,.slice a3 n3 c3,.slice a4 n4 c4],.string ⟨List.toArray x⟩]) (y:=m) (by
                         simp only [RepVs,Md.hd,Md.tl]
                         exact ⟨_,_,[],[],rfl,rfl,keep_p X.out.2.2 hN5.2.2.1.later,_,_,[],[],rfl,rfl,(by simp [RepV]),rfl,rfl⟩) hFA
                       obtain ⟨d0,d1,d2,d3,d4⟩:=five_at hN5.1
                       clear hFA hN5
                       go_wp2_with fail
                       refine hcall.mono ?_
                       rintro e w6 ⟨u,P6,rfl,p6',hr6⟩
                       simp only [RepV] at hr6
                       obtain ⟨rfl,-⟩:=hr6
                       clear hcall d0 d1 d2 d3 d4
                       have HN:=AsideQ.mk (NX.out w6 P6 (p5.trans0 p6'))
                       obtain ⟨v8,c8⟩:=H8.out _ _ HN.out.2.2.2.2
                       have f8:=Mx HN.out.2.2.2.2.r8 j
                       clear NX HB HM p5 p6' H8
                       go_wp2
                       go_roundg k
                       case measure => omega
                       case rel => exact ⟨j + 1,put3 f j m,P6,by first | rfl | rw [IW.out],⟨by have:=YA.out.1; omega,by omega,H4.out,HN.out.2.2.2.2.field (by omega) (by omega) m⟩⟩)
      | succ k =>
        have hj:(j:Int) <= 6:=by have:=Y.out.1; omega
        have hbA:bw < wA.heap.size:=by omega
        have KB:AsideQ (∀ (wz:World) (Pz:Prot),PrS wA P1 w1.heap.size (w1.heap.size + 1) kd (0,0,0) wz Pz -> wz.cell? ⟨bw,ow,none⟩ = some (.string ⟨List.toArray w0⟩)):=⟨fun wz Pz h => WD.out 0 w0 rfl wz (h.ext.block _ hbA (by simp; omega))⟩
        have S0:=KB.out _ _ Y.out.2.2
        have hb0:bw < wr.heap.size:=Nat.lt_of_lt_of_le hbA Y.out.2.2.ext.size
        have hpos:(0:Int) < (rest.length:Int) + 1:=by omega
        go_wp2
        go_region_held3 (fun w' => w'.cell? ⟨bw,ow,none⟩ = some (.string ⟨List.toArray w0⟩))
          (first | exact S0 | exact (World.cell?_of_block (hb2.block _ hb0)).trans S0 | fail)
          (first
            | (with_reducible refine (SG.out.2.2.2 _ _).mono ?_
               rintro e w2 ⟨rfl,hb2⟩)
            | fail)
        have hp2w:PExt [] wr Pr w2 Pr:=by first | exact (St Y.out.2.2.ext.there).trans0 (Y6 hb2 (St Y.out.2.2.ext.there).there) | exact Y6 hb2 Y.out.2.2.ext.there
        have Y2:=AsideQ.mk (And.intro Y.out.1 (And.intro Y.out.2.1 (Y.out.2.2.later hp2w)))
        have IW:AsideQ (RowKit.wrap64 ((j:Int) + 1) = ((j + 1:Nat):Int)):=⟨by unfold RowKit.wrap64; omega⟩
        clear S0 hb0 hp2w hb2 Y KB
        obtain ⟨⟨c0,-,-,-⟩,⟨f0,-,-,-⟩⟩:=four_at Y2.out.2.2.r7
        cases hk:(ruleOf (j:Int) == w0) with
        | true =>
          have hk2:ruleOf (j:Int) = w0:=by simpa using hk
          go_wp2
          go_roundg k
          case measure => omega
          case rel => exact ⟨j + 1,(j:Int),Pr,by first | rfl | rw [IW.out],⟨by have:=Y2.out.1; omega,by rw [<- Y2.out.2.1]; show _ = prK w0 k (j + 1) (if ruleOf (j:Int) = w0 then (j:Int) else kd); rw [if_pos hk2],Y2.out.2.2.kind (by omega) _⟩⟩
        | false =>
          have hk2:¬ ruleOf (j:Int) = w0:=by simpa using hk
          go_wp2
          go_roundg k
          case measure => omega
          case rel => exact ⟨j + 1,kd,Pr,by first | rfl | rw [IW.out],⟨by have:=Y2.out.1; omega,by rw [<- Y2.out.2.1]; show _ = prK w0 k (j + 1) (if ruleOf (j:Int) = w0 then (j:Int) else kd); rw [if_neg hk2],Y2.out.2.2⟩⟩
end Go.Proofs
