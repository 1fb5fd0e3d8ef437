/-
  The walks of impl.PositiveCycle, impl.Distances, impl.SerialSchedule, impl.PriorityOrder and impl.PriorityName over the claims of the functions that they call. No condition.
-/
import Derived.Test.YteggmejnpcfalaaGreatN41
import Derived.Test.YteggmejnpcfalaaGreatProg
import Derived.KernelRfl
import Derived.WalkKit
import Derived.WalkSpells
import Derived.WalkLawsBesides
import Derived.Deep.QuietTactic
import Derived.Deep.LoopGhost
import Derived.Deep.RegionHeld3
import Derived.Deep.DrawnRows
import Derived.BigQuiet
import Derived.ProofKit
import Derived.OpenShut
import Derived.Lib.Hide
import Derived.Laws.ResultCell
namespace Go.Proofs
section
set_option linter.unusedVariables false
set_option linter.unusedSimpArgs false
open Go.RowKit Go.Abs
abbrev schT:Ty:=.st [.sl 3 (.int .i64),.sl 3 (.int .i64)]
abbrev Sch:Type:=List Int × List Int × Unit
abbrev schM:Md:=.s (.u .p) (.s (.u .p) .p)
def bestL (g:Sch -> Option Int):List Sch -> Sch -> Bool -> Option (Sch × Bool)
  | [],b,f => some (b,f)
  | s :: l,b,false => bestL g l s true
  | s :: l,b,true => (g s).bind fun n => (g b).bind fun k => if n < k then bestL g l s true else bestL g l b true
def bestF {ts:List Ty} (FA:Ty.dens [.st ts,.int .i64] -> Unit -> Option (List Sch × Unit)) (FM:Ty.dens [.st ts,schT] -> Unit -> Option (Int × Unit)):Ty.dens [.st ts,.int .i64] -> Unit -> Option ((Sch × Bool × Unit) × Unit):=fun x _ =>
  (FA x ()).bind fun ys => (bestL (fun s => (FM (x.1,s,()) ()).map (·.1)) ys.1 ([],[],()) false).map fun r => ((r.1,r.2,()),())
/-- what the variable holds: nothing yet, or an element of the list -/
def BestV (ss:List Sch) (cells:List Value) (b:Sch) (f:Bool) (v0 v1:Value):Prop:=
  (f = false /\ b = ([],[],()) /\ v0 = .slice none 0 0 /\ v1 = .slice none 0 0) \/ (f = true /\ ∃ i,ss[i]? = some b /\ cells[i * 2]? = some v0 /\ cells[i * 2 + 1]? = some v1)
theorem five_at {w:World} {b:Nat} {v0 v1 v2 v3 v4:Value} {e:TypeId} (h:w.heap[b]? = some (.cells #[v0,v1,v2,v3,v4] e (0,0))) :
    w.cell? ⟨b,0,none⟩ = some v0 /\ w.cell? ⟨b,1,none⟩ = some v1 /\ w.cell? ⟨b,2,none⟩ = some v2 /\ w.cell? ⟨b,3,none⟩ = some v3 /\ w.cell? ⟨b,4,none⟩ = some v4:=
  ⟨by rw [cell_of h]; rfl,by rw [cell_of h]; rfl,by rw [cell_of h]; rfl,by rw [cell_of h]; rfl,by rw [cell_of h]; rfl⟩
theorem V8 {w:World} {P:Prot} (ht:There w P):PExt [] w P w.drew P:=⟨rfl,rfl,rfl,Nat.le_refl _,fun _ _ _ => rfl,by simp,fun _ _ h => h,fun _ _ h => .inl h,ht⟩
theorem Z4 {w w':World} {P P':Prot} {b:Nat} (hp:PExt [] w P w' P') (hlt:b < w.heap.size) (hn:∀ o,¬ P b o):∀ o,¬ P' b o:=fun o ho => by
  rcases hp.old _ _ ho with h | h | h
  · exact hn o h
  · omega
  · simp at h
/-- the three variables' blocks -/
structure Vars (w:World) (b2 b6 b9:Nat) (ps:Array Value) (x y:Array Value):Prop where
  v2:w.heap[b2]? = some (.cells ps 37 (0,0))
  v6:w.heap[b6]? = some (.cells x 30 (0,0))
  v9:w.heap[b9]? = some (.cells y 30 (0,0))
/-- what the loads of a round read -/
def RdS (w1:World) (P1:Prot) (b2 b6 b9:Nat) (p0 p1 p2 p3 p4 u0 u1 v0 v1:Value) (w':World):Prop:=
  (w'.cell? ⟨b2,0,none⟩ = some p0 /\ w'.cell? ⟨b2,1,none⟩ = some p1 /\ w'.cell? ⟨b2,2,none⟩ = some p2 /\ w'.cell? ⟨b2,3,none⟩ = some p3 /\ w'.cell? ⟨b2,4,none⟩ = some p4) /\
    (w'.cell? ⟨b6,0,none⟩ = some u0 /\ w'.cell? ⟨b6,1,none⟩ = some u1) /\ (w'.cell? ⟨b9,0,none⟩ = some v0 /\ w'.cell? ⟨b9,1,none⟩ = some v1) /\
    AsideQ (∃ P',PExt [b6] w1 P1 w' P' /\ (∀ o,¬ P' b6 o) /\ Vars w' b2 b6 b9 #[p0,p1,p2,p3,p4] #[u0,u1] #[v0,v1])
end
section
open Go.RowKit Go.Abs
set_option linter.unusedVariables false
set_option linter.unusedSimpArgs false
/-- a row of n cells -/
def arr (n:Nat) (f:Nat -> Value):Array Value:=((List.range n).map f).toArray
theorem X0 (n:Nat) (f:Nat -> Value):(arr n f).size = n:=by simp [arr]
theorem arr_get {n:Nat} {f:Nat -> Value} {k:Nat} (h:k < n):(arr n f)[k]? = some (f k):=by
  simp [arr,h]
theorem arr_set (n:Nat) (f:Nat -> Value) (k:Nat) (v:Value):(arr n f).setIfInBounds k v = arr n (fun i => if i = k then v else f i):=by
  apply Array.ext
  · simp [arr]
  · intro i h1 h2
    simp only [arr,List.size_toArray,List.length_map,List.length_range] at h2
    rw [Array.getElem_setIfInBounds (by simpa [arr] using h2)]
    by_cases hk:k = i
    · subst hk; simp [arr]
    · rw [if_neg hk]; simp [arr,show ¬ i = k from fun e => hk e.symm]
theorem Jp {n:Nat} {f g:Nat -> Value} (h:∀ i,i < n -> f i = g i):arr n f = arr n g:=by
  unfold arr
  congr 1
  exact List.map_congr_left fun i hi => h i (List.mem_range.1 hi)
def updN {α:Type} (f:Nat -> α) (k:Nat) (v:α):Nat -> α:=fun i => if i = k then v else f i
theorem Bo {α:Type} (f:Nat -> α) (k:Nat) (v:α):updN f k v k = v:=by simp [updN]
theorem updN_ne {α:Type} (f:Nat -> α) {k:Nat} (v:α) {i:Nat} (h:i ≠ k):updN f k v i = f i:=by simp [updN,h]
theorem prot_lt {w:World} {P:Prot} {b o:Nat} (ht:There w P) (h:P b o):b < w.heap.size:=by
  obtain ⟨v,hv⟩:=ht b o h
  exact World.block_lt_of_cell? w ⟨b,o,none⟩ hv
end
section
open Go.RowKit Go.Abs
set_option linter.unusedVariables false
set_option linter.unusedSimpArgs false
/-- a square of numbers as a list of lists -/
def matL (n:Nat) (f:Nat -> Nat -> Int):List (List Int):=(List.range n).map fun i => (List.range n).map (f i)
theorem N4 (n:Nat) (f:Nat -> Nat -> Int):(matL n f).length = n:=by simp [matL]
theorem Yj {M:Program} {w:World} {P:Prot} (g:Nat -> Int):∀ l:List Nat,RepL (RepC M (.int .i64) w P .p) (l.map g) (l.map fun k => Value.int .i64 (g k)) []
  | [] => ⟨rfl,rfl⟩
  | k :: l => ⟨[_],_,[],[],rfl,rfl,by simp [RepC],Yj g l⟩
/-- a row of numbers that is protected -/
theorem Ac4 {M:Program} {w:World} {P:Prot} {b n:Nat} {f:Nat -> Int} {e:TypeId} (h:w.heap[b]? = some (.cells (arr n fun k => .int .i64 (f k)) e (0,0))) (hp:∀ o,o < n -> P b o) :
    RepC M (.sl 3 (.int .i64)) w P .p ((List.range n).map f) [.slice (some ⟨b,0,none⟩) n n] []:=by
  refine ⟨_,rfl,rfl,.inr ⟨b,0,n,(List.range n).map fun k => Value.int .i64 (f k),?_,?_,Yj (M:=M) (w:=w) (P:=P) f _,?_,fun j v hj => ?_⟩⟩
  · have e:(List.map f (List.range n)).length = n:=by simp
    exact congrArg (fun m => Value.slice (some ⟨b,0,none⟩) m n) e.symm
  · have e:(List.map f (List.range n)).length = n:=by simp
    exact Nat.le_of_eq e
  · have e:((List.range n).map f).length = n:=by simp
    exact (by simp:((List.range n).map fun k => Value.int .i64 (f k)).length = n).trans ((Nat.mul_one n).symm.trans (congrArg (· * 1) e.symm))
  · have hl:j < n:=by have:=(List.getElem?_eq_some_iff.1 hj).1; simpa using this
    refine ⟨?_,by rw [Nat.zero_add]; exact hp j hl⟩
    rw [Nat.zero_add,cell_of h]
    simpa [arr] using hj
theorem Xv {M:Program} {w:World} {P:Prot} (n:Nat) (L:Nat -> Nat) (f:Nat -> Nat -> Int):∀ l:List Nat,(∀ i ∈ l,RepC M (.sl 3 (.int .i64)) w P .p ((List.range n).map (f i)) [.slice (some ⟨L i,0,none⟩) n n] []) ->
    RepL (RepC M (.sl 3 (.int .i64)) w P .p) (l.map fun i => (List.range n).map (f i)) (l.map fun i => Value.slice (some ⟨L i,0,none⟩) n n) []
  | [],_ => ⟨rfl,rfl⟩
  | k :: l,h => ⟨[_],_,[],[],rfl,rfl,h k (List.mem_cons_self ..),Xv n L f l fun i hi => h i (List.mem_cons_of_mem _ hi)⟩
/-- a square of numbers that is protected -/
theorem mat_rep {M:Program} {w:World} {P:Prot} {b n:Nat} {L:Nat -> Nat} {f:Nat -> Nat -> Int} {e:TypeId} {es:Nat -> TypeId} {t:TypeId} (h:w.heap[b]? = some (.cells (arr n fun i => .slice (some ⟨L i,0,none⟩) n n) e (0,0))) (hp:∀ o,o < n -> P b o)
    (hr:∀ i,i < n -> w.heap[L i]? = some (.cells (arr n fun k => .int .i64 (f i k)) (es i) (0,0)) /\ ∀ o,o < n -> P (L i) o) :
    RepV M (.sl t (.sl 3 (.int .i64))) w P .p (matL n f) (.slice (some ⟨b,0,none⟩) n n) []:=by
  refine ⟨rfl,.inr ⟨b,0,n,(List.range n).map fun i => Value.slice (some ⟨L i,0,none⟩) n n,?_,?_,Xv n L f _ fun i hi => Ac4 (hr i (List.mem_range.1 hi)).1 (hr i (List.mem_range.1 hi)).2,?_,fun j v hj => ?_⟩⟩
  · have e:(matL n f).length = n:=N4 n f
    exact congrArg (fun m => Value.slice (some ⟨b,0,none⟩) m n) e.symm
  · exact Nat.le_of_eq (N4 n f)
  · have e:(matL n f).length = n:=N4 n f
    exact (by simp:((List.range n).map fun i => Value.slice (some ⟨L i,0,none⟩) n n).length = n).trans ((Nat.mul_one n).symm.trans (congrArg (· * 1) e.symm))
  · have hl:j < n:=by have:=(List.getElem?_eq_some_iff.1 hj).1; simpa using this
    refine ⟨?_,by rw [Nat.zero_add]; exact hp j hl⟩
    rw [Nat.zero_add,cell_of h]
    simpa [arr] using hj
end
section
open Go.RowKit Go.Abs
set_option linter.unusedVariables false
set_option linter.unusedSimpArgs false
abbrev ilT:Ty:=.sl 3 (.int .i64)
abbrev lnkT:Ty:=.st [.int .i64,.int .i64,.bool,.int .i64]
abbrev Lnk:Type:=Int × Int × Bool × Int × Unit
abbrev prjTs:List Ty:=[.int .i64,.sl 52 (.st [.str,.int .i64,.sl 86 (.st [.int .i64,.sl 3 (.int .i64),.sl 3 (.int .i64)])]),.sl 63 lnkT,.sl 92 (.st [.sl 135 (.st [.int .i64,.int .i64]),.sl 26 (.sl 3 (.int .i64))]),.sl 3 (.int .i64)]
abbrev prjT:Ty:=.st prjTs
abbrev Prj:Type:=prjT.den
def lnks (p:Prj):List Lnk:=p.2.2.1
/-- the links of a project, one after the other, from number i on -/
def cycL (rec:List Int -> List Int -> Int -> Option (List Int)) (C:List Int -> Option (List Int)) (G:Lnk -> Option Int) (l0 to:Int) (links vis:List Int) (sum:Int):List Lnk -> Nat -> Option (List Int)
  | [],_ => some []
  | k :: r,i => if l0 < (i:Int) /\ k.1 = to then
      (C links).bind fun c => (C vis).bind fun v => (G k).bind fun g => if c.length < 1000 /\ v.length < 1000 then
        (rec (c ++ [(i:Int)]) (v ++ [to]) (IntKind.i64.wrap (sum + g))).bind fun out => if out = [] then cycL rec C G l0 to links vis sum r (i + 1) else some out else none
    else cycL rec C G l0 to links vis sum r (i + 1)
def cycF (C:List Int -> Option (List Int)) (H:List Int -> Int -> Option Bool) (p:Prj) (G:Lnk -> Option Int):Nat -> List Int -> List Int -> Int -> Int -> Option (List Int)
  | 0,_,_,_,_ => none
  | f + 1,links,vis,sum,len => if 1000 <= links.length \/ 1000 <= (lnks p).length then none else (getI links 0).bind fun l0 => (getI (lnks p) l0).bind fun k0 => (getI links ((links.length:Int) - 1)).bind fun l1 => (getI (lnks p) l1).bind fun k1 =>
    if (links.length:Int) = len then (if k1.2.1 = k0.1 /\ 0 < sum then (C links).bind fun c => if c = [] then none else some c else some [])
    else (H vis k1.2.1).bind fun h => if h = true then some [] else cycL (fun a b s => cycF C H p G f a b s len) C G l0 k1.2.1 links vis sum (lnks p) 0
/-- what is said of a call of cycle: nil where nothing is found -/
def CycOk (M:Program) (fn:FuncId) (B:Base) (p:Prj) (len:Int) (F:List Int -> List Int -> Int -> Option (List Int)):Prop:=
  ∀ (w:World) (P:Prot) (links vis:List Int) (sum:Int) (v0 v1 v2:Value) (y:List Int),BaseOk M B w P -> There w P -> RepV M prjT w P .p p v0 [] -> RepV M ilT w P .p links v1 [] -> RepV M ilT w P .p vis v2 [] -> F links vis sum = some y ->
    Calls M fn #[v0,v1,v2,.int .i64 sum,.int .i64 len] w fun e w' => ∃ u P',e = .returned u /\ PExt [] w P w' P' /\ RepV M ilT w' P' .p y u [] /\ (y = [] -> u = .slice none 0 0) /\ (y ≠ [] -> ∃ b n c,u = .slice (some b) n c)
/-- a list that is seen: its slice and its cells -/
theorem il_at {M:Program} {w:World} {P:Prot} {xs:List Int} {v:Value} (h:RepV M ilT w P .p xs v []):∃ a cap,v = .slice a xs.length cap /\ (∀ (i x:Int),getI xs i = some x -> ∃ b o,a = some ⟨b,o,none⟩ /\ 0 <= i /\ i < xs.length /\ w.cell? ⟨b,o + i.toNat,none⟩ = some (.int .i64 x) /\ P b (o + i.toNat)):=by
  simp only [RepV] at h
  obtain ⟨-,⟨rfl,a,rfl⟩ | ⟨b,off,cap,cells,rfl,hcp,hL,hcl,hcs⟩⟩:=h
  · refine ⟨a,0,rfl,fun i x hi => ?_⟩
    have h1:i < 0:=(H4 hi).2.2
    have h0:=(H4 hi).1
    omega
  · refine ⟨_,cap,rfl,fun i x hi => ?_⟩
    obtain ⟨h0,h1,h2⟩:=H4 hi
    obtain ⟨hr,hlen⟩:=RepL.get (size:=1) (fun x cs T r => (RepC.length (.int .i64) r).1) hL h1
    simp only [RepC] at hr
    have hc:cells[i.toNat]? = some (.int .i64 x):=by
      have:=congrArg (fun l => l[0]?) hr.1
      simpa [List.getElem?_take] using this
    obtain ⟨q1,q2⟩:=hcs _ _ hc
    exact ⟨b,off,rfl,h0,h2,q1,q2⟩
/-- a list of links that is seen -/
theorem lk_at {M:Program} {w:World} {P:Prot} {xs:List Lnk} {v:Value} (h:RepV M (.sl 63 lnkT) w P .p xs v []):∃ a cap,v = .slice a xs.length cap /\ xs.length <= cap /\ (∀ (i:Int) (x:Lnk),getI xs i = some x -> ∃ b o,a = some ⟨b,o,none⟩ /\ 0 <= i /\ i < xs.length /\
    (w.cell? ⟨b,o + i.toNat * 4,none⟩ = some (.int .i64 x.1) /\ w.cell? ⟨b,o + i.toNat * 4 + 1,none⟩ = some (.int .i64 x.2.1) /\ w.cell? ⟨b,o + i.toNat * 4 + 2,none⟩ = some (.bool x.2.2.1) /\ w.cell? ⟨b,o + i.toNat * 4 + 3,none⟩ = some (.int .i64 x.2.2.2.1)) /\
    ∀ j,j < 4 -> P b (o + i.toNat * 4 + j)):=by
  simp only [RepV] at h
  obtain ⟨-,⟨rfl,a,rfl⟩ | ⟨b,off,cap,cells,rfl,hcp,hL,hcl,hcs⟩⟩:=h
  · refine ⟨a,0,rfl,Nat.le_refl _,fun i x hi => ?_⟩
    have h1:i < 0:=(H4 hi).2.2
    have h0:=(H4 hi).1
    omega
  · refine ⟨_,cap,rfl,hcp,fun i x hi => ?_⟩
    obtain ⟨h0,h1,h2⟩:=H4 hi
    obtain ⟨hr,hlen⟩:=RepL.get (size:=4) (fun x cs T r => (RepC.length lnkT r).1) hL h1
    obtain ⟨x0,x1,x2,x3,ux⟩:=x
    simp only [RepC,RepCs] at hr
    obtain ⟨c1,d1,T1,U1,e1,-,⟨rfl,-⟩,c2,d2,T2,U2,rfl,-,⟨rfl,-⟩,c3,d3,T3,U3,rfl,-,⟨rfl,-⟩,c4,d4,T4,U4,rfl,-,⟨rfl,-⟩,rfl,-⟩:=hr
    have hg:∀ j v,([Value.int .i64 x0,.int .i64 x1,.bool x2,.int .i64 x3]:List Value)[j]? = some v -> cells[i.toNat * 4 + j]? = some v:=fun j v hj => by
      have hj4:j < 4:=by have:=(List.getElem?_eq_some_iff.1 hj).1; simpa using this
      have:=congrArg (fun l => l[j]?) e1
      simp only [List.getElem?_take,List.getElem?_drop,hj4,if_true] at this
      rw [this]
      simpa using hj
    have a0:=hcs _ _ (hg 0 _ rfl)
    have a1:=hcs _ _ (hg 1 _ rfl)
    have a2:=hcs _ _ (hg 2 _ rfl)
    have a3:=hcs _ _ (hg 3 _ rfl)
    simp only [<- Nat.add_assoc,Nat.add_zero] at a0 a1 a2 a3
    refine ⟨b,off,rfl,h0,h2,⟨a0.1,a1.1,a2.1,a3.1⟩,fun j hj => ?_⟩
    match j,hj with
    | 0,_ => exact a0.2
    | 1,_ => exact a1.2
    | 2,_ => exact a2.2
    | 3,_ => exact a3.2
theorem four_at {w:World} {b:Nat} {v0 v1 v2 v3:Value} {e:TypeId} (h:w.heap[b]? = some (.cells #[v0,v1,v2,v3] e (0,0))) :
    w.cell? ⟨b,0,none⟩ = some v0 /\ w.cell? ⟨b,1,none⟩ = some v1 /\ w.cell? ⟨b,2,none⟩ = some v2 /\ w.cell? ⟨b,3,none⟩ = some v3:=
  ⟨by rw [cell_of h]; rfl,by rw [cell_of h]; rfl,by rw [cell_of h]; rfl,by rw [cell_of h]; rfl⟩
/-- a call that is lent nothing; what it gives is shared -/
theorem Im {B:Base} {M:Program} {f:FuncId} {ps:List Ty} {im m:Md} {r:Ty} {F:Ty.dens ps -> Unit -> Option (r.den × Unit)} (hs:SigB B M f ⟨ps,[],none,im,r,m,F⟩) (hnh:r.nh m = true) {w:World} {P:Prot} (hb:BaseOk M B w P) (ht:There w P)
    {xs:Ty.dens ps} {vs:List Value} (ha:RepVs M ps w P .p xs vs []) {y:r.den} (hy:(F xs ()).map (·.1) = some y) :
    Calls M f vs.toArray w fun e w' => ∃ u P',e = .returned u /\ PExt [] w P w' P' /\ RepV M r w' P' .p y u []:=by
  obtain ⟨y2,hy2,rfl⟩:=Option.map_eq_some_iff.1 hy
  have:=Pg hs hb ht (ys:=()) (caps:=[]) ha rfl hy2
  rw [List.append_nil] at this
  refine this.mono ?_
  rintro e w' ⟨u,P1,Tr,rfl,hp,hrep,hnd,hsub⟩
  exact ⟨u,P1.add w' Tr,rfl,hp.add fun b hb => .inl (hsub b hb).1,RepV.freeze (Later.add w' P1 Tr) r hrep hnh fun b hb o v hv => .inr ⟨hb,v,hv⟩⟩
theorem il_some {M:Program} {w:World} {P:Prot} {xs:List Int} {v:Value} (h:RepV M ilT w P .p xs v []) (hne:xs ≠ []):∃ b n c,v = .slice (some b) n c:=by
  simp only [RepV] at h
  obtain ⟨-,⟨rfl,-⟩ | ⟨b,off,cap,cells,rfl,-⟩⟩:=h
  · exact absurd rfl hne
  · exact ⟨_,_,_,rfl⟩
theorem il_nil {M:Program} {w:World} {P:Prot}:RepV M ilT w P .p ([]:List Int) (.slice none 0 0) []:=by
  simp only [RepV]
  exact ⟨rfl,.inl ⟨rfl,none,rfl⟩⟩
end
section
open Go.RowKit Go.Abs
set_option linter.unusedVariables false
set_option linter.unusedSimpArgs false
theorem app_run {M:Program} {wa w:World} {Pa P:Prot} {t ty:TypeId} (hk:TyOk M t ilT) {xs:List Int} {vx:Value} {T:List Nat} {bx c:Nat} {i:Int} (hc:w.cell? ⟨bx,0,none⟩ = some (.int .i64 i)) (hext:PExt [] wa Pa w P) (hr:RepV M ilT w P (.u .p) xs vx T) (hT:∀ b ∈ T,wa.heap.size <= b /\ b < w.heap.size) (hl:xs.length < 1000) :
    ∃ v' w' P',(Builtin.append_ #[t,t] ty #[vx,.slice (some ⟨bx,0,none⟩) 1 c]).run M w = .ok v' w' /\ PExt [] wa Pa w' P' /\ Later w P w' P' /\ RepV M ilT w' P' .p (xs ++ [i]) v' [] /\ (∀ b,b < w.heap.size -> b ∉ T -> w'.heap[b]? = w.heap[b]?):=by
  obtain ⟨v',w',hrun,hres⟩:=Si (ty:=ty) (ad:=some ⟨bx,0,none⟩) (m:=1) (cap':=c) (news:=[.int .i64 i]) hk hr (show (List.length (α:=Int) xs) + 1 <= room by rw [room_eq]; omega) rfl (.inr ⟨_,rfl,fun j u hj => by
    match j,hj with
    | 0,hj => obtain rfl:=Option.some.inj hj; exact hc⟩) (by simp [Value.oneCell'])
  rcases hres with ⟨-,-,h,-⟩ | ⟨b',cap2,cells,Tc,rfl,hle,hmx,hrow,hin,hrl,hcl,hcase⟩
  · cases h
  · have hb:(∃ bo,Grown w w' bo /\ (∀ k,bo = some k -> k = b' /\ k ∈ T)) /\ wa.heap.size <= b' /\ (∀ o,¬ P b' o):=by
      rcases hcase with ⟨rfl,hg,hs,hf⟩ | ⟨rfl,hs,-,hg⟩
      · exact ⟨⟨_,hg,fun k hk => by cases hk; exact ⟨rfl,by simp⟩⟩,(hT b' (by simp)).1,hf⟩
      · exact ⟨⟨_,hg,fun k hk => by cases hk⟩,hext.size,fun o ho => absurd (prot_lt hext.there ho) (Nat.lt_irrefl _)⟩
    obtain ⟨⟨bo,hg,hbo⟩,hbw,hbf⟩:=hb
    have hkeep:∀ b,b < w.heap.size -> b ∉ T -> w'.heap[b]? = w.heap[b]?:=fun b hb hbT => hg.block b hb fun e => hbT (hbo b e.symm).2
    have hPk:∀ b o,P b o -> w'.heap[b]? = w.heap[b]?:=fun b o hp => hg.block b (prot_lt hext.there hp) fun e => hbf o ((hbo b e.symm).1 ▸ hp)
    have hL:Later w P w' (P.add w' [b']):=⟨hg.size,fun b o hp => .inl hp,fun b o v hp hv => by rw [World.cell?_of_block (hPk b o hp)]; exact hv,fun b o _ hp => hPk b o hp⟩
    refine ⟨_,w',P.add w' [b'],hrun,⟨hg.os.trans hext.os,hg.tape.trans hext.tape,hg.output.trans hext.output,Nat.le_trans hext.size hg.size,fun k hk hn => ?_,by simp,fun b o hp => .inl (hext.prot b o hp),fun b o hp => ?_,fun b o hp => ?_⟩,hL,?_,hkeep⟩
    · rw [hkeep k (Nat.lt_of_lt_of_le hk hext.size) fun h => by have:=(hT k h).1; omega]
      exact hext.block k hk hn
    · rcases hp with hp | ⟨hp,_⟩
      · exact hext.old b o hp
      · simp at hp
        subst hp
        exact .inr (.inl hbw)
    · rcases hp with hp | ⟨hp,v,hv⟩
      · obtain ⟨v,hv⟩:=hext.there b o hp
        exact ⟨v,hL.cell b o v hp hv⟩
      · exact ⟨v,hv⟩
    · have hl2:(xs ++ [i]).length = xs.length + 1:=by simp
      simp only [RepV]
      refine ⟨rfl,.inr ⟨b',0,cap2,cells ++ [.int .i64 i],congrArg (fun m => Value.slice (some ⟨b',0,none⟩) m cap2) hl2.symm,Nat.le_trans (Nat.le_of_eq hl2) hle,RepL.join (T1:=[]) (T2:=[]) (RepL.flat (t:=.int .i64) rfl hrl) ⟨[_],[],[],[],rfl,rfl,by simp [RepC],rfl,rfl⟩,?_,fun j v hj => ⟨hin j v hj,.inr ⟨by simp,v,?_⟩⟩⟩⟩
      · have e1:cells.length = (List.length (α:=Int) xs) * 1:=hcl
        have e2:(cells ++ [Value.int .i64 i]).length = cells.length + 1:=by simp
        exact e2.trans ((by omega:cells.length + 1 = (List.length (α:=Int) xs + 1) * 1).trans (congrArg (· * 1) hl2.symm))
      · have:=hin j v hj
        simpa using this
theorem Yg {M:Program} {wa w:World} {Pa P:Prot} {ops:Array Oper} {o:Oper} {a:Act} {K:Act -> World -> Prop} {Q:Exit -> Act -> World -> Prop} {E:Prop} (hgd:o.guard = none) (s x:Operand) (t:TypeId)
    (ho:o.op = .call { callee:=.builtin .append,args:=#[s,x],argTypes:=#[t,t] }) (hk:TyOk M t ilT) {xs:List Int} {vx:Value} {T:List Nat} (hs:a.eval s = vx) {bx c:Nat} (hx:a.eval x = .slice (some ⟨bx,0,none⟩) 1 c) {i:Int} (hc:w.cell? ⟨bx,0,none⟩ = some (.int .i64 i)) (hext:PExt [] wa Pa w P) (hr:RepV M ilT w P (.u .p) xs vx T) (hT:∀ b ∈ T,wa.heap.size <= b /\ b < w.heap.size) (hl:xs.length < 1000)
    (h:∀ v' w' P',PExt [] wa Pa w' P' -> Later w P w' P' -> RepV M ilT w' P' .p (xs ++ [i]) v' [] -> (∀ b,b < w.heap.size -> b ∉ T -> w'.heap[b]? = w.heap[b]?) -> K (a.put o.dst v') w') :
    if Region.wanted o (yielded ops a.tmps) = true then Oper.wp M o a w K Q else E:=by
  have hw:Region.wanted o (yielded ops a.tmps) = true:=by simp [Region.wanted,hgd]
  rw [if_pos hw]
  obtain ⟨v',w',P',h1,h2,h3,h4,h5⟩:=app_run (M:=M) (ty:=o.type) (c:=c) hk hc hext hr hT hl
  unfold Oper.wp execOp
  simp only [ho,resolve,invoke,builtin,Sem.run_bind,Sem.run_pure,Result.andThen_ok,List.map_toArray,List.map_cons,List.map_nil,hs,hx,h1]
  exact h v' w' P' h2 h3 h4 h5
theorem pext_al {wa w:World} {Pa P:Prot} (h:PExt [] wa Pa w P) (o:Obj):PExt [] wa Pa (w.alloc o) P:=h.trans0 (Qh ((Below.refl _ _).alloc (Nat.le_refl _) _) h.there)
theorem Yd {w:World} {P:Prot} (ht:There w P) (o:Obj):Later w P (w.alloc o) P:=(Qh ((Below.refl _ _).alloc (Nat.le_refl _) _) ht:PExt [] w P (w.alloc o) P).later
theorem Wv (w:World) (v:Value) (e:TypeId):(w.alloc (.cells #[v] e)).cell? ⟨w.heap.size,0,none⟩ = some v:=by rw [cell_of (heap_alloc_new _ _)]; rfl
theorem Lq {w:World} {b:Nat} (v:Value) (e:TypeId) (h:b = w.heap.size):(w.alloc (.cells #[v] e)).cell? ⟨b,0,none⟩ = some v:=h ▸ Wv w v e
theorem Mx {w:World} {b k:Nat} (o:Obj) (h:b < w.heap.size):(w.alloc o).cell? ⟨b,k,none⟩ = w.cell? ⟨b,k,none⟩:=World.cell?_of_block (heap_alloc_old _ _ h)
theorem pext_dr {wa w:World} {Pa P:Prot} (h:PExt [] wa Pa w P):PExt [] wa Pa w.drew P:=h.trans0 (V8 h.there)
theorem cell_dr (w:World) (a:Addr):w.drew.cell? a = w.cell? a:=rfl
theorem heap_dr (w:World):w.drew.heap = w.heap:=rfl
theorem rep_al {M:Program} {t:Ty} {w:World} {P:Prot} {m:Md} {x:t.den} {v:Value} {T:List Nat} (h:RepV M t w P m x v T) (ht:There w P) (hT:∀ b ∈ T,b < w.heap.size) (o:Obj):RepV M t (w.alloc o) P m x v T:=Ada h (Qh ((Below.refl _ _).alloc (Nat.le_refl _) _) ht) hT
theorem size_al (w:World) (o:Obj):(w.alloc o).heap.size = w.heap.size + 1:=by simp
theorem clone_c {B:Base} {M:Program} {f:FuncId} {F:Ty.dens [ilT] -> Unit -> Option (List Int × Unit)} (hs:SigB B M f ⟨[ilT],[],none,.p,ilT,.u .p,F⟩) {wa:World} {Pa:Prot} (hb:BaseOk M B wa Pa) {xs c:List Int} {v:Value} (hr:RepV M ilT wa Pa .p xs v []) (hy:(F (xs,()) ()).map (·.1) = some c) :
    ∀ wc Pc,PExt [] wa Pa wc Pc -> Calls M f #[v] wc fun e w' => ∃ u P' T,e = .returned u /\ PExt [] wa Pa w' P' /\ Later wc Pc w' P' /\ RepV M ilT w' P' (.u .p) c u T /\ (∀ b ∈ T,wc.heap.size <= b /\ b < w'.heap.size) /\ wc.heap.size <= w'.heap.size /\ ∀ b,b < wc.heap.size -> w'.heap[b]? = wc.heap[b]?:=fun wc Pc hp => by
  obtain ⟨y2,hy2,rfl⟩:=Option.map_eq_some_iff.1 hy
  have:=Pg hs (hb.later hp.later) hp.there (xs:=(xs,())) (ys:=()) (vs:=[v]) (caps:=[]) (by
    simp only [RepVs,Md.hd,Md.tl]
    exact ⟨_,_,[],[],rfl,rfl,keep_p hr hp.later,rfl,rfl⟩) rfl hy2
  refine this.mono ?_
  rintro e w' ⟨u,P1,Tr,rfl,h1,hrep,hnd,hsub⟩
  exact ⟨u,P1,Tr,rfl,hp.trans0 h1,h1.later,hrep,hsub,h1.size,fun b hb => h1.block b hb (by simp)⟩
theorem gap_c {B:Base} {M:Program} {f:FuncId} {F:Ty.dens [prjT,lnkT] -> Unit -> Option (Int × Unit)} (hs:SigB B M f ⟨[prjT,lnkT],[],none,.p,.int .i64,.p,F⟩) {wa:World} {Pa:Prot} (hb:BaseOk M B wa Pa) {p:Prj} {k:Lnk} {v u:Value} (hr:RepV M prjT wa Pa .p p v []) (hk:∀ w P,RepV M lnkT w P .p k u []) {g:Int} (hy:(F (p,k,()) ()).map (·.1) = some g) :
    ∀ wc Pc,PExt [] wa Pa wc Pc -> Calls M f #[v,u] wc fun e w' => ∃ P',e = .returned (.int .i64 g) /\ PExt [] wa Pa w' P' /\ Later wc Pc w' P' /\ wc.heap.size <= w'.heap.size /\ ∀ b,b < wc.heap.size -> w'.heap[b]? = wc.heap[b]?:=fun wc Pc hp => by
  obtain ⟨y2,hy2,rfl⟩:=Option.map_eq_some_iff.1 hy
  have:=Pg hs (hb.later hp.later) hp.there (xs:=(p,k,())) (ys:=()) (vs:=[v,u]) (caps:=[]) (by
    simp only [RepVs,Md.hd,Md.tl]
    exact ⟨_,_,[],[],rfl,rfl,keep_p hr hp.later,_,_,[],[],rfl,rfl,hk _ _,rfl,rfl⟩) rfl hy2
  refine this.mono ?_
  rintro e w' ⟨u,P1,Tr,rfl,h1,hrep,hnd,hsub⟩
  simp only [RepV] at hrep
  obtain ⟨rfl,-⟩:=hrep
  exact ⟨P1,rfl,hp.trans0 h1,h1.later,h1.size,fun b hb => h1.block b hb (by simp)⟩
theorem lnk_rep {M:Program} {w:World} {P:Prot} {z1 z2 z4:Int} {z3:Bool} {u:Unit}:RepV M lnkT w P .p ((z1,z2,z3,z4,u):Lnk) (.agg #[.int .i64 z1,.int .i64 z2,.bool z3,.int .i64 z4]) []:=by
  simp only [RepV,RepCs,RepC]
  exact ⟨_,rfl,_,_,[],[],rfl,rfl,⟨rfl,rfl⟩,_,_,[],[],rfl,rfl,⟨rfl,rfl⟩,_,_,[],[],rfl,rfl,⟨rfl,rfl⟩,_,_,[],[],rfl,rfl,⟨rfl,rfl⟩,rfl,rfl⟩
theorem CycOk.call {M:Program} {fn:FuncId} {B:Base} {p:Prj} {len:Int} {F:List Int -> List Int -> Int -> Option (List Int)} (h:CycOk M fn B p len F) {w:World} {P:Prot} {links vis:List Int} {sum:Int} {v0 v1 v2:Value} {y:List Int} (hb:BaseOk M B w P) (ht:There w P) (h0:RepV M prjT w P .p p v0 []) (h1:RepV M ilT w P .p links v1 []) (h2:RepV M ilT w P .p vis v2 []) (hy:F links vis sum = some y) :
    Calls M fn #[v0,v1,v2,.int .i64 sum,.int .i64 len] w fun e w' => ∃ u P',e = .returned u /\ PExt [] w P w' P' /\ RepV M ilT w' P' .p y u [] /\ (y = [] -> u = .slice none 0 0) /\ (y ≠ [] -> ∃ b n c,u = .slice (some b) n c):=h w P links vis sum v0 v1 v2 y hb ht h0 h1 h2 hy
theorem two_new {w1:World} {n:Nat} (hz:w1.heap.size = n) {a b:Array Value} {ea eb:TypeId}:((w1.alloc (.cells a ea)).alloc (.cells b eb)).drew.heap[n]? = some (.cells a ea (0,0)) /\ ((w1.alloc (.cells a ea)).alloc (.cells b eb)).drew.heap[n + 1]? = some (.cells b eb (0,0)) /\
    ∀ k,k < n -> ((w1.alloc (.cells a ea)).alloc (.cells b eb)).drew.heap[k]? = w1.heap[k]?:=by
  subst hz
  refine ⟨?_,?_,fun k hk => ?_⟩
  · rw [heap_dr,heap_alloc_old _ _ (by rw [size_al]; omega)]; exact heap_alloc_new _ _
  · rw [heap_dr,<- size_al w1 (.cells a ea)]; exact heap_alloc_new _ _
  · rw [heap_dr,heap_alloc_old _ _ (by rw [size_al]; omega),heap_alloc_old _ _ hk]
end
section
set_option linter.unusedVariables false
set_option linter.unusedSimpArgs false
open Go.RowKit Go.Abs
attribute [local go_sem ↓] Go.wp_at_zero Go.wp_at_succ
theorem prj_at {M:Program} {w:World} {P:Prot} {x:Prj} {v:Value} (h:RepV M prjT w P .p x v []):∃ n a1 n1 c1 a2 n2 c2 a3 n3 c3 a4 n4 c4,v = .agg #[.int .i64 n,.slice a1 n1 c1,.slice a2 n2 c2,.slice a3 n3 c3,.slice a4 n4 c4] /\ RepV M (.sl 63 lnkT) w P .p (lnks x) (.slice a2 n2 c2) []:=by
  have h':=h
  simp only [RepV,RepCs,RepC] at h
  obtain ⟨cs,rfl,c1,d1,T1,U1,rfl,e0,⟨rfl,-⟩,c2,d2,T2,U2,rfl,e1,⟨v2,rfl,h2⟩,c3,d3,T3,U3,rfl,e2,⟨v3,rfl,h3⟩,c4,d4,T4,U4,rfl,e3,⟨v4,rfl,h4⟩,c5,d5,T5,U5,rfl,e4,⟨v5,rfl,h5⟩,rfl,rfl⟩:=h
  have e:T3 = []:=by
    have h1:=List.append_eq_nil_iff.1 e0.symm
    have h2:=List.append_eq_nil_iff.1 (e1 ▸ h1.2)
    exact (List.append_eq_nil_iff.1 (e2 ▸ h2.2)).1
  subst e
  obtain ⟨a1,n1,k1,rfl⟩:=RepSl.one h2
  obtain ⟨a2,n2,k2,rfl⟩:=RepSl.one h3
  obtain ⟨a3,n3,k3,rfl⟩:=RepSl.one h4
  obtain ⟨a4,n4,k4,rfl⟩:=RepSl.one h5
  refine ⟨_,a1,n1,k1,a2,n2,k2,a3,n3,k3,a4,n4,k4,rfl,?_⟩
  simp only [RepV]
  exact h3
set_option maxRecDepth 100000 in
set_option maxHeartbeats 4000000 in
theorem Tryz.cyc_ok {B:Base} {FC:Ty.dens [ilT] -> Unit -> Option (List Int × Unit)} {FH:Ty.dens [ilT,.int .i64] -> Unit -> Option (Bool × Unit)} {FG:Ty.dens [prjT,lnkT] -> Unit -> Option (Int × Unit)}
    (hC:SigB B Tryz.prog 49 ⟨[ilT],[],none,.p,ilT,.u .p,FC⟩) (hH:SigB B Tryz.prog 75 ⟨[ilT,.int .i64],[],none,.p,.bool,.p,FH⟩) (hG:SigB B Tryz.prog 37 ⟨[prjT,lnkT],[],none,.p,.int .i64,.p,FG⟩) (hT:TyOk Tryz.prog 26 ilT) (p:Prj) (len:Int) :
    ∀ f,CycOk Tryz.prog 36 B p len (fun a b s => cycF (fun l => (FC (l,()) ()).map (·.1)) (fun l x => (FH (l,x,()) ()).map (·.1)) p (fun k => (FG (p,k,()) ()).map (·.1)) f a b s len):=by
  intro f
  induction f with
  | zero =>
    intro w P links vis sum v0 v1 v2 y hb ht h0 h1 h2 hy
    exact absurd (show (none:Option (List Int)) = some y from hy) (by simp)
  | succ f ih =>
    intro w P links vis sum v0 v1 v2 y hb ht h0 h1 h2 hy
    obtain ⟨n0,a1,n1,k1,a2,n2,k2,a3,n3,k3,a4,n4,k4,rfl,hl⟩:=prj_at h0
    have hyA:(if 1000 <= links.length \/ 1000 <= (lnks p).length then none else _) = some y:=hy
    clear hy
    have hL:¬ (1000 <= links.length \/ 1000 <= (lnks p).length):=fun h => by rw [if_pos h] at hyA; cases hyA
    rw [if_neg hL] at hyA
    obtain ⟨l0,g0,hyB⟩:=Option.bind_eq_some_iff.1 hyA
    obtain ⟨k0,g1,hyC⟩:=Option.bind_eq_some_iff.1 hyB
    obtain ⟨l1,g2,hyD⟩:=Option.bind_eq_some_iff.1 hyC
    obtain ⟨k1',g3,hy⟩:=Option.bind_eq_some_iff.1 hyD
    clear hyA hyB hyC hyD
    obtain ⟨al,cl,rfl,hil⟩:=il_at h1
    obtain ⟨av,cv,rfl,-⟩:=il_at h2
    obtain ⟨al2,cl2,hq,hcap,hlk⟩:=lk_at hl
    injection hq with hq1 hq2 hq3
    subst hq1 hq2 hq3
    obtain ⟨bl,ol,rfl,-,q1,c1,p1⟩:=hil _ _ g0
    obtain ⟨bl',ol',hq,q2,q3,c2,p2⟩:=hil _ _ g2
    injection hq with hq
    injection hq with hq1 hq2
    subst hq1 hq2
    obtain ⟨bk,ok,rfl,q4,q5,c3,p3⟩:=hlk _ _ g1
    obtain ⟨bk',ok',hq,q6,q7,c4,p4⟩:=hlk _ _ g3
    injection hq with hq
    injection hq with hq1 hq2
    subst hq1 hq2
    obtain ⟨j0,rfl⟩:∃ j0:Nat,l0 = (j0:Int):=⟨l0.toNat,by omega⟩
    obtain ⟨j1,rfl⟩:∃ j1:Nat,l1 = (j1:Int):=⟨l1.toNat,by omega⟩
    simp only [Int.toNat_natCast] at c3 c4 p3 p4
    have hn:0 < links.length:=Int.ofNat_lt.1 (by omega)
    simp only [Int.toNat_natCast,Int.toNat_zero,Nat.add_zero] at c1 c2 p1 p2
    obtain ⟨x1,x2,x3,x4,ux⟩:=k0
    obtain ⟨y1,y2,y3,y4,uy⟩:=k1'
    obtain ⟨c30,c31,c32,c33⟩:=c3
    obtain ⟨c40,c41,c42,c43⟩:=c4
    have hj0:(j0:Int) < ((lnks p).length:Int):=q5
    have hj1:(j1:Int) < ((lnks p).length:Int):=q7
    have z0:(0:Int) <= (j0:Int):=by omega
    have z1:(0:Int) <= (j1:Int):=by omega
    have hnI:(0:Int) < (links.length:Int):=by omega
    have hnJ:=hnI
    have et:((links.length:Int) - 1).toNat = links.length - 1:=by omega
    rw [et] at c2 p2
    obtain ⟨m,hm⟩:∃ m:Nat,links.length = m + 1:=⟨links.length - 1,by omega⟩
    have em:links.length - 1 = m:=by omega
    rw [em] at c2 p2
    rw [hm] at h1
    have hn1:(0:Int) <= (m:Int):=by omega
    have hn2:(m:Int) < (m:Int) + 1:=by omega
    have hn3:(m:Int) <= 1000:=by omega
    have HM:=AsideQ.mk hm
    have HK:AsideQ ((lnks p).length < 1000):=⟨by omega⟩
    have hw2:IntKind.i64.wrap ((m:Int) + 1 - 1) = m:=(IntWalk.i64_in _ (by omega)).trans (by omega)
    have hw3:RowKit.wrap64 ((m:Int) + 1 - 1) = m:=by unfold RowKit.wrap64; omega
    have hw4:IntKind.i64.wrap (m:Int) = m:=IntWalk.i64_in _ (by omega)
    clear q1 q2 q3 q4 q5 q6 q7 hcap hn hL et hm em hnI hnJ
    have X:AsideQ (BaseOk Tryz.prog B w P /\ There w P /\ RepV Tryz.prog prjT w P .p p (.agg #[.int .i64 n0,.slice a1 n1 k1,.slice (some ⟨bk,ok,none⟩) (lnks p).length k2,.slice a3 n3 k3,.slice a4 n4 k4]) [] /\ RepV Tryz.prog ilT w P .p links (.slice (some ⟨bl,ol,none⟩) (m + 1) cl) [] /\ RepV Tryz.prog ilT w P .p vis (.slice av vis.length cv) []):=⟨hb,ht,h0,h1,h2⟩
    have XL:AsideQ (∀ (i:Int) (x:Lnk),getI (lnks p) i = some x -> ∃ b o,(some ⟨bk,ok,none⟩:Option Addr) = some ⟨b,o,none⟩ /\ 0 <= i /\ i < (lnks p).length /\
      (w.cell? ⟨b,o + i.toNat * 4,none⟩ = some (.int .i64 x.1) /\ w.cell? ⟨b,o + i.toNat * 4 + 1,none⟩ = some (.int .i64 x.2.1) /\ w.cell? ⟨b,o + i.toNat * 4 + 2,none⟩ = some (.bool x.2.2.1) /\ w.cell? ⟨b,o + i.toNat * 4 + 3,none⟩ = some (.int .i64 x.2.2.2.1)) /\
      ∀ j,j < 4 -> P b (o + i.toNat * 4 + j)):=⟨hlk⟩
    have XY:=AsideQ.mk hy
    have XI:=AsideQ.mk ih
    have SG:=AsideQ.mk (And.intro hC (And.intro hH hG))
    clear hb ht h0 h1 h2 hlk hil hl hy ih hC hH hG
    rw [HM.out]
    go_enter Tryz.func36,Tryz.ntmps36
    go_wp2
    have HA:(w.alloc (.cells #[.int .i64 n0,.slice a1 n1 k1,.slice (some ⟨bk,ok,none⟩) (lnks p).length k2,.slice a3 n3 k3,.slice a4 n4 k4] 28)).heap[w.heap.size]? = some (.cells #[.int .i64 n0,.slice a1 n1 k1,.slice (some ⟨bk,ok,none⟩) (lnks p).length k2,.slice a3 n3 k3,.slice a4 n4 k4] 28 (0,0)):=heap_alloc_new _ _
    have HB:∀ b,b < w.heap.size -> (w.alloc (.cells #[.int .i64 n0,.slice a1 n1 k1,.slice (some ⟨bk,ok,none⟩) (lnks p).length k2,.slice a3 n3 k3,.slice a4 n4 k4] 28)).heap[b]? = w.heap[b]?:=fun b hb => heap_alloc_old _ _ hb
    have hz:(w.alloc (.cells #[.int .i64 n0,.slice a1 n1 k1,.slice (some ⟨bk,ok,none⟩) (lnks p).length k2,.slice a3 n3 k3,.slice a4 n4 k4] 28)).heap.size = w.heap.size + 1:=by simp
    have hp1:=pext_al (PExt.refl X.out.2.1) (.cells #[.int .i64 n0,.slice a1 n1 k1,.slice (some ⟨bk,ok,none⟩) (lnks p).length k2,.slice a3 n3 k3,.slice a4 n4 k4] 28)
    generalize w.alloc (.cells #[.int .i64 n0,.slice a1 n1 k1,.slice (some ⟨bk,ok,none⟩) (lnks p).length k2,.slice a3 n3 k3,.slice a4 n4 k4] 28) = w1 at *
    have hS:∀ w':World,(∀ b,b < w1.heap.size -> w'.heap[b]? = w1.heap[b]?) ->
       w'.cell? ⟨w.heap.size,2,none⟩ = some (.slice (some ⟨bk,ok,none⟩) (lnks p).length k2) /\ (w'.cell? ⟨bl,ol,none⟩ = some (.int .i64 (j0:Int)) /\ w'.cell? ⟨bl,ol + m,none⟩ = some (.int .i64 (j1:Int))) /\
       (w'.cell? ⟨bk,ok + j0 * 4,none⟩ = some (.int .i64 x1) /\ w'.cell? ⟨bk,ok + j0 * 4 + 1,none⟩ = some (.int .i64 x2) /\ w'.cell? ⟨bk,ok + j0 * 4 + 2,none⟩ = some (.bool x3) /\ w'.cell? ⟨bk,ok + j0 * 4 + 3,none⟩ = some (.int .i64 x4)) /\
       (w'.cell? ⟨bk,ok + j1 * 4,none⟩ = some (.int .i64 y1) /\ w'.cell? ⟨bk,ok + j1 * 4 + 1,none⟩ = some (.int .i64 y2) /\ w'.cell? ⟨bk,ok + j1 * 4 + 2,none⟩ = some (.bool y3) /\ w'.cell? ⟨bk,ok + j1 * 4 + 3,none⟩ = some (.int .i64 y4)):=fun w' h => by
      have hold:∀ (b o:Nat) (v:Value),w.cell? ⟨b,o,none⟩ = some v -> w'.cell? ⟨b,o,none⟩ = some v:=fun b o v hc => by
        have hlt:=World.block_lt_of_cell? w ⟨b,o,none⟩ hc
        rw [World.cell?_of_block ((h b (by simp at hlt; omega)).trans (HB b hlt))]
        exact hc
      refine ⟨?_,⟨hold _ _ _ c1,hold _ _ _ c2⟩,⟨hold _ _ _ c30,hold _ _ _ c31,hold _ _ _ c32,hold _ _ _ c33⟩,hold _ _ _ c40,hold _ _ _ c41,hold _ _ _ c42,hold _ _ _ c43⟩
      rw [cell_of ((h _ (by omega)).trans HA)]
      rfl
    have SH:AsideQ _:=⟨hS⟩
    have hS0:=hS w1.drew (fun b hb => rfl)
    clear hS
    rename_i Q K hK _ _
    have main0:AsideQ (∀ (b11 b12:Nat) (w2:World),w2.heap[b11]? = some (.cells #[.int .i64 x1,.int .i64 x2,.bool x3,.int .i64 x4] 63 (0,0)) -> w2.heap[b12]? = some (.cells #[.int .i64 y1,.int .i64 y2,.bool y3,.int .i64 y4] 63 (0,0)) -> PExt [] w P w2 P -> w2.heap[w.heap.size]? = some (.cells #[.int .i64 n0,.slice a1 n1 k1,.slice (some ⟨bk,ok,none⟩) (lnks p).length k2,.slice a3 n3 k3,.slice a4 n4 k4] 28 (0,0)) ->
      K { tmps:=#[.agg #[.int .i64 n0,.slice a1 n1 k1,.slice (some ⟨bk,ok,none⟩) (lnks p).length k2,.slice a3 n3 k3,.slice a4 n4 k4],.slice (some ⟨bl,ol,none⟩) (m + 1) cl,.slice av vis.length cv,.int .i64 sum,.int .i64 len,.pointer (some ⟨w.heap.size,0,none⟩),undef,undef,undef,undef,.slice none 0 0,.pointer (some ⟨b11,0,none⟩),.pointer (some ⟨b12,0,none⟩),undef,undef,undef,.pointer (some ⟨w.heap.size,2,none⟩),.slice (some ⟨bk,ok,none⟩) (lnks p).length k2,.slice (some ⟨bl,ol,none⟩) (m + 1) cl,.pointer (some ⟨bl,ol,none⟩),.int .i64 (j0:Int),.pointer (some ⟨bk,ok + j0 * 4,none⟩),.agg #[.int .i64 x1,.int .i64 x2,.bool x3,.int .i64 x4],.pointer (some ⟨w.heap.size,2,none⟩),.slice (some ⟨bk,ok,none⟩) (lnks p).length k2,.slice (some ⟨bl,ol,none⟩) (m + 1) cl,.slice (some ⟨bl,ol,none⟩) (m + 1) cl,.int .i64 ((m:Int) + 1),.int .i64 (m:Int),.pointer (some ⟨bl,ol + m,none⟩),.int .i64 (j1:Int),.pointer (some ⟨bk,ok + j1 * 4,none⟩),.agg #[.int .i64 y1,.int .i64 y2,.bool y3,.int .i64 y4],undef,undef,undef,undef,undef,undef,undef,undef,undef,undef,undef,undef,undef,undef,undef,undef,undef,undef,undef,undef,undef,undef,undef,undef,undef,undef,undef,undef,undef,undef,undef,undef,undef,undef,undef,undef,undef,undef,undef,undef,undef,undef,undef,undef,undef,undef,undef,undef,undef,undef,undef,undef,undef,undef,undef,undef,undef,undef,undef,undef,undef,undef],defers:=[] } w2):=by
      refine ⟨?_⟩
      intro b11 b12 w2 r11 r12 hp2 r5
      refine hK _ _ ?_
      clear SH hS0 HA HB hz
      clear c30 c31 c32 c33 c40 c41 c42 c43 z0 z1 hj0 hj1 hn1 hn2
      obtain ⟨d110,d111,d112,d113⟩:=four_at r11
      obtain ⟨d120,d121,d122,d123⟩:=four_at r12
      have R:=AsideQ.mk (And.intro r11 (And.intro r12 (And.intro hp2 r5)))
      clear r11 r12 hp2 r5
      have hy1:=XY.out
      have HL:=HM.out
      by_cases hlen:(m:Int) + 1 = len
      · rw [if_pos (by rw [HL,<- hlen]; rfl)] at hy1
        by_cases ha:y2 = x1
        · by_cases hs:0 < sum
          · rw [if_pos ⟨ha,hs⟩] at hy1
            obtain ⟨c,hc,hy2⟩:=Option.bind_eq_some_iff.1 hy1
            have YC:=AsideQ.mk (And.intro hc hy2)
            clear hy1 hc hy2 HL
            go_wp2_with fail
            refine (Im SG.out.1 rfl (X.out.1.later R.out.2.2.1.later) R.out.2.2.1.there (xs:=(links,())) (by
              simp only [RepVs,Md.hd,Md.tl]
              exact ⟨_,_,[],[],rfl,rfl,keep_p X.out.2.2.2.1 R.out.2.2.1.later,rfl,rfl⟩) YC.out.1).mono ?_
            rintro e w3 ⟨u,P3,rfl,hp3,hr3⟩
            go_wp2
            go_ret
            obtain ⟨hc,hy2⟩:=YC.out
            by_cases hc0:c = []
            · rw [if_pos hc0] at hy2; cases hy2
            rw [if_neg hc0] at hy2
            cases hy2
            exact ⟨_,P3,rfl,R.out.2.2.1.trans0 hp3,hr3,fun h => absurd h hc0,fun h => il_some hr3 h⟩
          · rw [if_neg (fun h => hs h.2)] at hy1
            have YC:=AsideQ.mk hy1
            clear hy1 HL
            go_wp2
            go_ret
            have hy2:=Option.some.inj YC.out
            subst hy2
            first | exact ⟨.slice none 0 0,P,rfl,R.out.2.2.1,il_nil,fun _ => rfl,fun h => absurd rfl h⟩ | exact ⟨.slice none 0 0,rfl,P,R.out.2.2.1,il_nil,fun _ => rfl,fun h => absurd rfl h⟩
        · rw [if_neg (fun h => ha h.1)] at hy1
          have YC:=AsideQ.mk hy1
          clear hy1 HL
          go_wp2
          go_ret
          have hy2:=Option.some.inj YC.out
          subst hy2
          exact ⟨.slice none 0 0,P,rfl,R.out.2.2.1,il_nil,fun _ => rfl,fun h => absurd rfl h⟩
      · rw [if_neg (by rw [HL]; exact hlen)] at hy1
        obtain ⟨h,hh,hy2⟩:=Option.bind_eq_some_iff.1 hy1
        have hcall:=Im SG.out.2.1 rfl (X.out.1.later R.out.2.2.1.later) R.out.2.2.1.there (xs:=(vis,y2,())) (y:=h) (vs:=[.slice av vis.length cv,.int .i64 y2]) (by
          simp only [RepVs,Md.hd,Md.tl]
          exact ⟨_,_,[],[],rfl,rfl,keep_p X.out.2.2.2.2 R.out.2.2.1.later,_,_,[],[],rfl,rfl,(by simp [RepV]),rfl,rfl⟩) hh
        have YC:=AsideQ.mk hy2
        clear hy1 hh hy2 HL
        go_wp2_with fail
        refine hcall.mono ?_
        rintro e w3 ⟨u,P3,rfl,hp3,hr3⟩
        simp only [RepV] at hr3
        obtain ⟨rfl,-⟩:=hr3
        clear hcall
        have R3:=AsideQ.mk (R.out.2.2.1.trans0 hp3)
        cases h with
        | true =>
          go_wp2
          go_ret
          have hy3:=Option.some.inj (show some [] = some y from YC.out)
          subst hy3
          first | exact ⟨.slice none 0 0,P3,rfl,R3.out,il_nil,fun _ => rfl,fun h => absurd rfl h⟩ | exact ⟨.slice none 0 0,rfl,P3,R3.out,il_nil,fun _ => rfl,fun h => absurd rfl h⟩
        | false =>
          have s5:w3.heap[w.heap.size]? = some (.cells #[.int .i64 n0,.slice a1 n1 k1,.slice (some ⟨bk,ok,none⟩) (lnks p).length k2,.slice a3 n3 k3,.slice a4 n4 k4] 28 (0,0)):=by
            rw [hp3.block _ (Array.getElem?_eq_some_iff.1 R.out.2.2.2).1 (by simp)]; exact R.out.2.2.2
          have s11:w3.heap[b11]? = some (.cells #[.int .i64 x1,.int .i64 x2,.bool x3,.int .i64 x4] 63 (0,0)):=by
            rw [hp3.block _ (Array.getElem?_eq_some_iff.1 R.out.1).1 (by simp)]; exact R.out.1
          have s12:w3.heap[b12]? = some (.cells #[.int .i64 y1,.int .i64 y2,.bool y3,.int .i64 y4] 63 (0,0)):=by
            rw [hp3.block _ (Array.getElem?_eq_some_iff.1 R.out.2.1).1 (by simp)]; exact R.out.2.1
          have S3:=AsideQ.mk (And.intro s5 (And.intro s11 s12))
          obtain ⟨c50,c51,c52,c53,c54⟩:=five_at s5
          have YL:AsideQ (cycL (fun a b s => cycF (fun l => (FC (l,()) ()).map (·.1)) (fun l x => (FH (l,x,()) ()).map (·.1)) p (fun k => (FG (p,k,()) ()).map (·.1)) f a b s len) (fun l => (FC (l,()) ()).map (·.1)) (fun k => (FG (p,k,()) ()).map (·.1)) (j0:Int) y2 links vis sum (lnks p) 0 = some y):=⟨YC.out⟩
          clear s5 s11 s12 hp3 YC
          go_wp2
          clear c50 c51 c52 c53 c54 d110 d111 d112 d113 d120 d121 d122 d123
          go_loopg [55] (lnks p).length (fun k s55 wr => ∃ (i:Nat) (Pr:Prot),s55 = .int .i64 (i:Int) /\ AsideQ (i + k = (lnks p).length /\ cycL (fun a b s => cycF (fun l => (FC (l,()) ()).map (·.1)) (fun l x => (FH (l,x,()) ()).map (·.1)) p (fun k => (FG (p,k,()) ()).map (·.1)) f a b s len) (fun l => (FC (l,()) ()).map (·.1)) (fun k => (FG (p,k,()) ()).map (·.1)) (j0:Int) y2 links vis sum ((lnks p).drop i) i = some y /\ PExt [] w P wr Pr /\
            wr.heap[w.heap.size]? = some (.cells #[.int .i64 n0,.slice a1 n1 k1,.slice (some ⟨bk,ok,none⟩) (lnks p).length k2,.slice a3 n3 k3,.slice a4 n4 k4] 28 (0,0)) /\ wr.heap[b11]? = some (.cells #[.int .i64 x1,.int .i64 x2,.bool x3,.int .i64 x4] 63 (0,0)) /\ wr.heap[b12]? = some (.cells #[.int .i64 y1,.int .i64 y2,.bool y3,.int .i64 y4] 63 (0,0))))
          case atStart => exact ⟨0,P3,rfl,⟨by omega,YL.out,R3.out,S3.out⟩⟩
          case round =>
            clear R3 S3 YL
            obtain ⟨i,Pr,rfl,Y⟩:=hrel
            cases gk with
            | zero =>
              have hi:i = (lnks p).length:=by have:=Y.out.1; omega
              subst hi
              have hni:¬ ((lnks p).length < (lnks p).length):=Nat.lt_irrefl _
              go_wp2
              go_ret
              have hy3:=Y.out.2.1
              rw [List.drop_length] at hy3
              have hy3:=Option.some.inj (show some [] = some y from hy3)
              subst hy3
              first | exact ⟨.slice none 0 0,Pr,rfl,Y.out.2.2.1,il_nil,fun _ => rfl,fun h => absurd rfl h⟩ | exact ⟨.slice none 0 0,rfl,Pr,Y.out.2.2.1,il_nil,fun _ => rfl,fun h => absurd rfl h⟩
            | succ k =>
              have hi:i < (lnks p).length:=by have:=Y.out.1; omega
              obtain ⟨b',o',hq,-,-,⟨e0,e1,e2,e3⟩,pp⟩:=XL.out (i:Int) (lnks p)[i] (getI_lt hi)
              injection hq with hq
              injection hq with hq1 hq2
              subst hq1 hq2
              simp only [Int.toNat_natCast] at e0 e1 e2 e3 pp
              have hdr:(lnks p).drop i = (lnks p)[i] :: (lnks p).drop (i + 1):=List.drop_eq_getElem_cons hi
              have hold:∀ (o:Nat) (v:Value),w.cell? ⟨bk,o,none⟩ = some v -> wr.cell? ⟨bk,o,none⟩ = some v:=fun o v hc => by
                rw [World.cell?_of_block (Y.out.2.2.1.block _ (World.block_lt_of_cell? w ⟨bk,o,none⟩ hc) (by simp))]; exact hc
              replace e0:=hold _ _ e0
              replace e1:=hold _ _ e1
              replace e2:=hold _ _ e2
              replace e3:=hold _ _ e3
              have ZD:=AsideQ.mk hdr
              have hiI:(i:Int) < ((lnks p).length:Int):=by omega
              have hi0:(0:Int) <= (i:Int):=by omega
              clear hold hdr pp
              generalize hz:(lnks p)[i] = z at *
              obtain ⟨z1,z2,z3,z4,uz⟩:=z
              have ZG:=AsideQ.mk hz
              clear hz
              obtain ⟨c50,c51,c52,c53,c54⟩:=five_at Y.out.2.2.2.1
              obtain ⟨d120,d121,d122,d123⟩:=four_at Y.out.2.2.2.2.2
              have cl0:wr.cell? ⟨bl,ol,none⟩ = some (.int .i64 (j0:Int)):=by
                rw [World.cell?_of_block (Y.out.2.2.1.block _ (World.block_lt_of_cell? w ⟨bl,ol,none⟩ c1) (by simp))]; exact c1
              have hl0:bl < wr.heap.size:=World.block_lt_of_cell? wr ⟨bl,ol,none⟩ cl0
              have hl12:b12 < wr.heap.size:=World.block_lt_of_cell? wr ⟨b12,0,none⟩ d120
              have hl5:w.heap.size < wr.heap.size:=World.block_lt_of_cell? wr ⟨w.heap.size,0,none⟩ c50
              have IW:AsideQ (RowKit.wrap64 ((i:Int) + 1) = ((i + 1:Nat):Int)):=⟨by have:=HK.out; unfold RowKit.wrap64; omega⟩
              have NX:AsideQ (∀ (wz:World) (Pz:Prot),PExt [] wr Pr wz Pz -> PExt [] w P wz Pz /\ wz.heap[w.heap.size]? = some (.cells #[.int .i64 n0,.slice a1 n1 k1,.slice (some ⟨bk,ok,none⟩) (lnks p).length k2,.slice a3 n3 k3,.slice a4 n4 k4] 28 (0,0)) /\ wz.heap[b11]? = some (.cells #[.int .i64 x1,.int .i64 x2,.bool x3,.int .i64 x4] 63 (0,0)) /\ wz.heap[b12]? = some (.cells #[.int .i64 y1,.int .i64 y2,.bool y3,.int .i64 y4] 63 (0,0))):=⟨fun wz Pz hp => by
                refine ⟨Y.out.2.2.1.trans0 hp,?_,?_,?_⟩
                · rw [hp.block _ hl5 (by simp)]; exact Y.out.2.2.2.1
                · rw [hp.block _ (Array.getElem?_eq_some_iff.1 Y.out.2.2.2.2.1).1 (by simp)]; exact Y.out.2.2.2.2.1
                · rw [hp.block _ hl12 (by simp)]; exact Y.out.2.2.2.2.2⟩
              have HAl:AsideQ (PExt [] wr Pr (wr.alloc (.cells #[.int .i64 z1,.int .i64 z2,.bool z3,.int .i64 z4] 63)) Pr):=⟨Qh ((Below.refl _ _).alloc (Nat.le_refl _) _) Y.out.2.2.1.there⟩
              have hyc:=Y.out.2.1
              rw [ZD.out] at hyc
              have hyc1:(if (j0:Int) < (i:Int) /\ z1 = y2 then _ else _) = some y:=hyc
              clear hyc
              by_cases hc:(j0:Int) < (i:Int) /\ z1 = y2
              · rw [if_pos hc] at hyc1
                obtain ⟨hcA,hcB⟩:=hc
                replace hcB:=hcB.symm
                subst hcB
                obtain ⟨c,hfc,hyc2⟩:=Option.bind_eq_some_iff.1 hyc1
                obtain ⟨v,hfv,hyc3⟩:=Option.bind_eq_some_iff.1 hyc2
                obtain ⟨g,hfg,hyc4⟩:=Option.bind_eq_some_iff.1 hyc3
                by_cases hlen2:c.length < 1000 /\ v.length < 1000
                · rw [if_pos hlen2] at hyc4
                  obtain ⟨out,hfo,hyc5⟩:=Option.bind_eq_some_iff.1 hyc4
                  have YA:=AsideQ.mk Y.out.1
                  have Y5:=AsideQ.mk hyc5
                  have FX:=AsideQ.mk (And.intro hfc (And.intro hfv (And.intro hfg (And.intro hlen2 hfo))))
                  clear hyc1 hyc2 hyc3 hyc4 hyc5 hfc hfv hfg hlen2 hfo
                  go_wp2
                  have hp0:=Y.out.2.2.1.trans0 HAl.out
                  have hnew:(wr.alloc (.cells #[.int .i64 y2,.int .i64 z2,.bool z3,.int .i64 z4] 63)).heap[wr.heap.size]? = some (.cells #[.int .i64 y2,.int .i64 z2,.bool z3,.int .i64 z4] 63 (0,0)):=heap_alloc_new _ _
                  generalize wr.alloc (.cells #[.int .i64 y2,.int .i64 z2,.bool z3,.int .i64 z4] 63) = W0 at *
                  have HW:AsideQ (BaseOk Tryz.prog B W0 Pr /\ RepV Tryz.prog prjT W0 Pr .p p (.agg #[.int .i64 n0,.slice a1 n1 k1,.slice (some ⟨bk,ok,none⟩) (lnks p).length k2,.slice a3 n3 k3,.slice a4 n4 k4]) [] /\
                    RepV Tryz.prog ilT W0 Pr .p links (.slice (some ⟨bl,ol,none⟩) (m + 1) cl) [] /\ RepV Tryz.prog ilT W0 Pr .p vis (.slice av vis.length cv) []):=
                    ⟨X.out.1.later hp0.later,keep_p X.out.2.2.1 hp0.later,keep_p X.out.2.2.2.1 hp0.later,keep_p X.out.2.2.2.2 hp0.later⟩
                  have p0:PExt [] W0 Pr W0 Pr:=PExt.refl HAl.out.there
                  have hnl:wr.heap.size < W0.heap.size:=(Array.getElem?_eq_some_iff.1 hnew).1
                  obtain ⟨f0,f1,f2,f3⟩:=four_at hnew
                  have hSK:∀ (w':World) (P':Prot),PExt [] W0 Pr w' P' -> (w'.cell? ⟨w.heap.size,0,none⟩ = some (.int .i64 n0) /\ w'.cell? ⟨w.heap.size,1,none⟩ = some (.slice a1 n1 k1) /\ w'.cell? ⟨w.heap.size,2,none⟩ = some (.slice (some ⟨bk,ok,none⟩) (lnks p).length k2) /\ w'.cell? ⟨w.heap.size,3,none⟩ = some (.slice a3 n3 k3) /\ w'.cell? ⟨w.heap.size,4,none⟩ = some (.slice a4 n4 k4)) /\
                      w'.cell? ⟨b12,1,none⟩ = some (.int .i64 y2) /\ (w'.cell? ⟨wr.heap.size,0,none⟩ = some (.int .i64 y2) /\ w'.cell? ⟨wr.heap.size,1,none⟩ = some (.int .i64 z2) /\ w'.cell? ⟨wr.heap.size,2,none⟩ = some (.bool z3) /\ w'.cell? ⟨wr.heap.size,3,none⟩ = some (.int .i64 z4)):=fun w' P' hp => by
                    have h1:∀ (b o:Nat) (v:Value),b < wr.heap.size -> wr.cell? ⟨b,o,none⟩ = some v -> w'.cell? ⟨b,o,none⟩ = some v:=fun b o v hb hc => by
                      rw [World.cell?_of_block (hp.block b (Nat.lt_trans hb hnl) (by simp)),World.cell?_of_block (HAl.out.block _ hb (by simp))]; exact hc
                    have h2:∀ (o:Nat) (v:Value),W0.cell? ⟨wr.heap.size,o,none⟩ = some v -> w'.cell? ⟨wr.heap.size,o,none⟩ = some v:=fun o v hc => by
                      rw [World.cell?_of_block (hp.block _ hnl (by simp))]; exact hc
                    exact ⟨⟨h1 _ _ _ hl5 c50,h1 _ _ _ hl5 c51,h1 _ _ _ hl5 c52,h1 _ _ _ hl5 c53,h1 _ _ _ hl5 c54⟩,h1 _ _ _ hl12 d121,h2 _ _ f0,h2 _ _ f1,h2 _ _ f2,h2 _ _ f3⟩
                  have SK:=AsideQ.mk hSK
                  have S0:=hSK _ _ (pext_dr p0)
                  clear hSK hp0 hnew c50 c51 c52 c53 c54 d120 d121 d122 d123 f0 f1 f2 f3 cl0 e0 e1 e2 e3
                  have HTT:=AsideQ.mk hT
                  have QC:=AsideQ.mk (clone_c SG.out.1 HW.out.1 HW.out.2.2.1 FX.out.1)
                  have QV:=AsideQ.mk (clone_c SG.out.1 HW.out.1 HW.out.2.2.2 FX.out.2.1)
                  have QG:=AsideQ.mk (gap_c SG.out.2.2 HW.out.1 HW.out.2.1 (fun w P => lnk_rep (u:=uz)) FX.out.2.2.1)
                  go_region_held3 (fun w' => (w'.cell? ⟨w.heap.size,0,none⟩ = some (.int .i64 n0) /\ w'.cell? ⟨w.heap.size,1,none⟩ = some (.slice a1 n1 k1) /\ w'.cell? ⟨w.heap.size,2,none⟩ = some (.slice (some ⟨bk,ok,none⟩) (lnks p).length k2) /\ w'.cell? ⟨w.heap.size,3,none⟩ = some (.slice a3 n3 k3) /\ w'.cell? ⟨w.heap.size,4,none⟩ = some (.slice a4 n4 k4)) /\
                      w'.cell? ⟨b12,1,none⟩ = some (.int .i64 y2) /\ (w'.cell? ⟨wr.heap.size,0,none⟩ = some (.int .i64 y2) /\ w'.cell? ⟨wr.heap.size,1,none⟩ = some (.int .i64 z2) /\ w'.cell? ⟨wr.heap.size,2,none⟩ = some (.bool z3) /\ w'.cell? ⟨wr.heap.size,3,none⟩ = some (.int .i64 z4)))
                    (first | exact S0 | exact SK.out _ _ (by first | assumption | exact pext_dr p0 | exact pext_al (by assumption) _ | exact pext_dr (pext_al p0 _) | exact pext_al (pext_al (by assumption) _) _ | exact pext_dr (pext_al (pext_al p0 _) _)) | fail)
                    (first
                      | (with_reducible refine (QC.out _ _ (by first | assumption | exact pext_dr p0 | exact pext_al (by assumption) _ | exact pext_dr (pext_al p0 _) | exact pext_al (pext_al (by assumption) _) _ | exact pext_dr (pext_al (pext_al p0 _) _))).mono ?_
                         rintro e w1 ⟨u1,P1,T1,rfl,p1,l1,r1,t1,s1,kk1⟩)
                      | (with_reducible refine (QV.out _ _ (by first | assumption | exact pext_dr p0 | exact pext_al (by assumption) _ | exact pext_dr (pext_al p0 _) | exact pext_al (pext_al (by assumption) _) _ | exact pext_dr (pext_al (pext_al p0 _) _))).mono ?_
                         rintro e w3 ⟨u3,P3,T3,rfl,p3,l3,r3,t3,s3,kk3⟩
                         have l3':Later w2 P2 w3 P3:=by first | exact l3 | exact (Yd p2.there _).trans l3)
                      | (with_reducible refine (QG.out _ _ (by first | assumption | exact pext_dr p0 | exact pext_al (by assumption) _ | exact pext_dr (pext_al p0 _) | exact pext_al (pext_al (by assumption) _) _ | exact pext_dr (pext_al (pext_al p0 _) _))).mono ?_
                         rintro e w5 ⟨P5,rfl,p5,l5,s5,kk5⟩)
                      | (with_reducible refine (XI.out.call (HW.out.1.later p5.later) p5.there (keep_p HW.out.2.1 p5.later) (keep_p r2 (l3'.trans (l4'.trans l5))) (keep_p r4 l5) FX.out.2.2.2.2).mono ?_
                         rintro e w6 ⟨u6,P6,rfl,p6',r6,n6,m6⟩
                         have p6:=p5.trans0 p6')
                      | (refine Yg (wa:=W0) (Pa:=Pr) (xs:=c) (vx:=u1) (T:=T1) (i:=(i:Int)) rfl (.tmp 74) (.tmp 76) 26 rfl HTT.out rfl rfl
                           (by repeat (first | exact Lq _ _ (by simp only [size_al,heap_dr]) | rw [cell_dr] | refine Eq.trans (Mx _ (by simp only [size_al,heap_dr] at *; omega)) ?_ | refine Eq.trans (World.cell?_of_block (kk1 _ (by simp only [size_al,heap_dr] at *; omega))) ?_))
                           (by first | assumption | exact pext_dr p0 | exact pext_al (by assumption) _ | exact pext_dr (pext_al p0 _) | exact pext_al (pext_al (by assumption) _) _ | exact pext_dr (pext_al (pext_al p0 _) _))
                           (by first | exact r1 | exact rep_al r1 p1.there (fun b hb => (t1 b hb).2) _ | exact rep_al (rep_al r1 p1.there (fun b hb => (t1 b hb).2) _) (pext_al p1 _).there (fun b hb => by have:=t1 b hb; simp only [size_al]; omega) _)
                           (fun b hb => by have:=t1 b hb; simp only [size_al,heap_dr] at *; omega) FX.out.2.2.2.1.1 ?_
                         intro v2 w2 P2 p2 l2 r2 kk2
                         have z2:=l2.size)
                      | (refine Yg (wa:=W0) (Pa:=Pr) (xs:=v) (vx:=u3) (T:=T3) (i:=y2) rfl (.tmp 79) (.tmp 82) 26 rfl HTT.out rfl rfl
                           (by repeat (first | exact Lq _ _ (by simp only [size_al,heap_dr]) | rw [cell_dr] | refine Eq.trans (Mx _ (by simp only [size_al,heap_dr] at *; omega)) ?_ | refine Eq.trans (World.cell?_of_block (kk3 _ (by simp only [size_al,heap_dr] at *; omega))) ?_ | refine Eq.trans (World.cell?_of_block (kk2 _ (by simp only [size_al,heap_dr] at *; omega) (fun h => by have:=t1 _ h; simp only [size_al,heap_dr] at *; omega))) ?_ | refine Eq.trans (World.cell?_of_block (kk1 _ (by simp only [size_al,heap_dr] at *; omega))) ?_))
                           (by first | assumption | exact pext_dr p0 | exact pext_al (by assumption) _ | exact pext_dr (pext_al p0 _) | exact pext_al (pext_al (by assumption) _) _ | exact pext_dr (pext_al (pext_al p0 _) _))
                           (by first | exact r3 | exact rep_al r3 p3.there (fun b hb => (t3 b hb).2) _ | exact rep_al (rep_al r3 p3.there (fun b hb => (t3 b hb).2) _) (pext_al p3 _).there (fun b hb => by have:=t3 b hb; simp only [size_al]; omega) _)
                           (fun b hb => by have:=t3 b hb; simp only [size_al,heap_dr] at *; omega) FX.out.2.2.2.1.2 ?_
                         intro v4 w4 P4 p4 l4 r4 kk4
                         have l4':Later w3 P3 w4 P4:=by first | exact l4 | exact (Yd p3.there _).trans l4)
                      | fail)
                  all_goals
                    have QQ:=AsideQ.mk (And.intro (NX.out w6 P6 (HAl.out.trans0 p6)) (And.intro r6 (And.intro n6 m6)))
                    clear p6 p6' r6 n6 m6
                    have hy5:=Y5.out
                    by_cases ho:out = []
                    · rw [if_pos ho] at hy5
                      have hu:=QQ.out.2.2.1 ho
                      subst hu
                      have HY:=AsideQ.mk hy5
                      clear hy5
                      go_wp2
                      go_roundg k
                      case measure => omega
                      case rel => exact ⟨i + 1,P6,by rw [IW.out],⟨by have:=YA.out; omega,HY.out,QQ.out.1⟩⟩
                    · rw [if_neg ho] at hy5
                      obtain ⟨b6,n6,c6,rfl⟩:=QQ.out.2.2.2 ho
                      have hy6:=Option.some.inj hy5
                      clear hy5
                      subst hy6
                      go_wp2
                      go_ret
                      exact ⟨_,P6,rfl,QQ.out.1.1,QQ.out.2.1,fun h => absurd h ho,fun h => ⟨_,_,_,rfl⟩⟩
                · rw [if_neg hlen2] at hyc4; cases hyc4
              · rw [if_neg hc] at hyc1
                have YN:=AsideQ.mk hyc1
                clear hyc1
                by_cases hc1:(j0:Int) < (i:Int)
                · have hc2:¬ z1 = y2:=fun h => hc ⟨hc1,h⟩
                  go_wp2
                  go_roundg k
                  case measure => omega
                  case rel => exact ⟨i + 1,Pr,by rw [IW.out],⟨by have:=Y.out.1; omega,YN.out,NX.out _ _ HAl.out⟩⟩
                · go_wp2
                  go_roundg k
                  case measure => omega
                  case rel => exact ⟨i + 1,Pr,by rw [IW.out],⟨by have:=Y.out.1; omega,YN.out,NX.out _ _ HAl.out⟩⟩
    obtain ⟨main⟩:=main0
    go_region_held3 (fun w' => w'.cell? ⟨w.heap.size,2,none⟩ = some (.slice (some ⟨bk,ok,none⟩) (lnks p).length k2) /\ (w'.cell? ⟨bl,ol,none⟩ = some (.int .i64 (j0:Int)) /\ w'.cell? ⟨bl,ol + m,none⟩ = some (.int .i64 (j1:Int))) /\
       (w'.cell? ⟨bk,ok + j0 * 4,none⟩ = some (.int .i64 x1) /\ w'.cell? ⟨bk,ok + j0 * 4 + 1,none⟩ = some (.int .i64 x2) /\ w'.cell? ⟨bk,ok + j0 * 4 + 2,none⟩ = some (.bool x3) /\ w'.cell? ⟨bk,ok + j0 * 4 + 3,none⟩ = some (.int .i64 x4)) /\
       (w'.cell? ⟨bk,ok + j1 * 4,none⟩ = some (.int .i64 y1) /\ w'.cell? ⟨bk,ok + j1 * 4 + 1,none⟩ = some (.int .i64 y2) /\ w'.cell? ⟨bk,ok + j1 * 4 + 2,none⟩ = some (.bool y3) /\ w'.cell? ⟨bk,ok + j1 * 4 + 3,none⟩ = some (.int .i64 y4))) (first | exact hS0 | (refine SH.out _ (fun b hb => ?_); repeat (first | rfl | (rw [show ∀ x:World,x.drew.heap = x.heap from fun _ => rfl]) | (rw [Gv (by omega)]) | (rw [heap_alloc_old _ _ (by first | omega | (simp; omega))])))) (fail)
    all_goals
      refine main _ _ _ ?_ ?_ (pext_dr (pext_al (pext_al hp1 _) _)) (((two_new hz).2.2 _ (by omega)).trans HA)
      · first | exact (two_new hz).1 | exact (two_new hz).2.1
      · first | exact (two_new hz).1 | exact (two_new hz).2.1
end
section
open Go.RowKit Go.Abs
set_option linter.unusedVariables false
set_option linter.unusedSimpArgs false
def posI (cy:List Int -> List Int -> Int -> Option (List Int)) (G:Lnk -> Option Int):List Lnk -> Nat -> Option (List Int)
  | [],_ => some []
  | k :: r,i => (G k).bind fun g => (cy [(i:Int)] [k.1] g).bind fun out => if out = [] then posI cy G r (i + 1) else some out
def posO (cy:Int -> List Int -> List Int -> Int -> Option (List Int)) (G:Lnk -> Option Int) (ls:List Lnk):Nat -> Nat -> Option (List Int)
  | 0,_ => some []
  | n + 1,len => (posI (cy (len:Int)) G ls 0).bind fun out => if out = [] then posO cy G ls n (len + 1) else some out
def posF (FO:Ty.dens [prjT] -> Unit -> Option (Bool × Unit)) (FC:Ty.dens [ilT] -> Unit -> Option (List Int × Unit)) (FH:Ty.dens [ilT,.int .i64] -> Unit -> Option (Bool × Unit)) (FG:Ty.dens [prjT,lnkT] -> Unit -> Option (Int × Unit)):Ty.dens [prjT] -> Unit -> Option (List Int × Unit):=fun x _ =>
  ((FO (x.1,()) ()).map (·.1)).bind fun ok => if ok = true then (if 1000 <= (lnks x.1).length \/ 1000 <= List.length x.1.2.1 then none else
    (posO (fun len a b s => cycF (fun l => (FC (l,()) ()).map (·.1)) (fun l y => (FH (l,y,()) ()).map (·.1)) x.1 (fun k => (FG (x.1,k,()) ()).map (·.1)) (len.toNat + 1) a b s len) (fun k => (FG (x.1,k,()) ()).map (·.1)) (lnks x.1) (List.length x.1.2.1 - 1) 2).map fun r => (r,()))
  else some ([],())
theorem Oo {α:Type} {R:Md -> α -> List Value -> List Nat -> Prop} {e:TypeId} {s:Nat} {w:World} {P:Prot} {x:List α} {v:Value} {T:List Nat} (h:RepSl R e s w P .p x v T):∃ a c,v = .slice a x.length c:=by
  obtain ⟨-,⟨rfl,a,rfl⟩ | ⟨b,off,cap,cells,rfl,-⟩⟩:=h
  · exact ⟨a,0,rfl⟩
  · exact ⟨_,_,rfl⟩
theorem prj_at2 {M:Program} {w:World} {P:Prot} {x:Prj} {v:Value} (h:RepV M prjT w P .p x v []):∃ n a1 c1 a2 c2 a3 n3 c3 a4 n4 c4,v = .agg #[.int .i64 n,.slice a1 (List.length x.2.1) c1,.slice a2 (lnks x).length c2,.slice a3 n3 c3,.slice a4 n4 c4] /\ RepV M (.sl 63 lnkT) w P .p (lnks x) (.slice a2 (lnks x).length c2) []:=by
  have h':=h
  simp only [RepV,RepCs,RepC] at h
  obtain ⟨cs,rfl,c1,d1,T1,U1,rfl,e0,⟨rfl,-⟩,c2,d2,T2,U2,rfl,e1,⟨v2,rfl,h2⟩,c3,d3,T3,U3,rfl,e2,⟨v3,rfl,h3⟩,c4,d4,T4,U4,rfl,e3,⟨v4,rfl,h4⟩,c5,d5,T5,U5,rfl,e4,⟨v5,rfl,h5⟩,rfl,rfl⟩:=h
  have e:T3 = []:=by
    have h1:=List.append_eq_nil_iff.1 e0.symm
    have h2:=List.append_eq_nil_iff.1 (e1 ▸ h1.2)
    exact (List.append_eq_nil_iff.1 (e2 ▸ h2.2)).1
  subst e
  obtain ⟨a1,k1,rfl⟩:=Oo h2
  obtain ⟨a2,k2,rfl⟩:=Oo h3
  obtain ⟨a3,k3,rfl⟩:=Oo h4
  obtain ⟨a4,k4,rfl⟩:=Oo h5
  refine ⟨_,a1,k1,a2,k2,a3,_,k3,a4,_,k4,rfl,?_⟩
  simp only [RepV]
  exact h3
/-- a list of one number that is protected -/
theorem one_rep {M:Program} {w:World} {P:Prot} {b:Nat} {i:Int} (h:w.cell? ⟨b,0,none⟩ = some (.int .i64 i)) (hp:P b 0):RepV M ilT w P .p [i] (.slice (some ⟨b,0,none⟩) 1 1) []:=by
  refine ⟨rfl,.inr ⟨b,0,1,[.int .i64 i],rfl,Nat.le_refl _,⟨[_],[],[],[],rfl,rfl,by simp [RepC],rfl,rfl⟩,rfl,fun j v hj => ?_⟩⟩
  match j,hj with
  | 0,hj => obtain rfl:=Option.some.inj hj; exact ⟨h,hp⟩
/-- two lists of one number of one's own are given away -/
theorem Ac6 {M:Program} {wa w:World} {Pa P:Prot} {b1 b2:Nat} {i1 i2:Int} (hp:PExt [] wa Pa w P) (h1:w.cell? ⟨b1,0,none⟩ = some (.int .i64 i1)) (h2:w.cell? ⟨b2,0,none⟩ = some (.int .i64 i2)) (g1:wa.heap.size <= b1) (g2:wa.heap.size <= b2) :
    PExt [] wa Pa w (P.add w [b1,b2]) /\ Later w P w (P.add w [b1,b2]) /\ RepV M ilT w (P.add w [b1,b2]) .p [i1] (.slice (some ⟨b1,0,none⟩) 1 1) [] /\ RepV M ilT w (P.add w [b1,b2]) .p [i2] (.slice (some ⟨b2,0,none⟩) 1 1) []:=
  ⟨hp.add fun b hb => by simp at hb; rcases hb with rfl | rfl <;> exact .inl (by assumption),Later.add _ _ _,one_rep h1 (.inr ⟨by simp,_,h1⟩),one_rep h2 (.inr ⟨by simp,_,h2⟩)⟩
/-- cycle called with two lists of one number -/
theorem Acq {M:Program} {fn:FuncId} {B:Base} {p:Prj} {len:Int} {F:List Int -> List Int -> Int -> Option (List Int)} (h:CycOk M fn B p len F) {wa w:World} {Pa P:Prot} {b1 b2:Nat} {i1 i2 sum:Int} {v0:Value} {y:List Int} (hb:BaseOk M B wa Pa) (h0:RepV M prjT wa Pa .p p v0 []) (hy:F [i1] [i2] sum = some y)
    (hp:PExt [] wa Pa w P) (h1:w.cell? ⟨b1,0,none⟩ = some (.int .i64 i1)) (h2:w.cell? ⟨b2,0,none⟩ = some (.int .i64 i2)) (g1:wa.heap.size <= b1) (g2:wa.heap.size <= b2) :
    Calls M fn #[v0,.slice (some ⟨b1,0,none⟩) 1 1,.slice (some ⟨b2,0,none⟩) 1 1,.int .i64 sum,.int .i64 len] w fun e w' => ∃ u P',e = .returned u /\ PExt [] wa Pa w' P' /\ RepV M ilT w' P' .p y u [] /\ (y = [] -> u = .slice none 0 0) /\ (y ≠ [] -> ∃ b n c,u = .slice (some b) n c):=by
  obtain ⟨q1,q2,q3,q4⟩:=Ac6 (M:=M) hp h1 h2 g1 g2
  refine (h.call (hb.later q1.later) q1.there (keep_p h0 q1.later) q3 q4 hy).mono ?_
  rintro e w' ⟨u,P',rfl,k1,k2,k3,k4⟩
  exact ⟨u,P',rfl,q1.trans0 k1,k2,k3,k4⟩
end
section
set_option linter.unusedVariables false
set_option linter.unusedSimpArgs false
open Go.RowKit Go.Abs
attribute [local go_sem ↓] Go.wp_at_zero Go.wp_at_succ
set_option maxRecDepth 100000 in
set_option maxHeartbeats 4000000 in
theorem Tryz.pos_ok {B:Base} {FO:Ty.dens [prjT] -> Unit -> Option (Bool × Unit)} {FC:Ty.dens [ilT] -> Unit -> Option (List Int × Unit)} {FH:Ty.dens [ilT,.int .i64] -> Unit -> Option (Bool × Unit)} {FG:Ty.dens [prjT,lnkT] -> Unit -> Option (Int × Unit)}
    (hO:SigB B Tryz.prog 27 ⟨[prjT],[],none,.p,.bool,.p,FO⟩) (hC:SigB B Tryz.prog 49 ⟨[ilT],[],none,.p,ilT,.u .p,FC⟩) (hH:SigB B Tryz.prog 75 ⟨[ilT,.int .i64],[],none,.p,.bool,.p,FH⟩) (hG:SigB B Tryz.prog 37 ⟨[prjT,lnkT],[],none,.p,.int .i64,.p,FG⟩) (hT:TyOk Tryz.prog 26 ilT) :
    SigB B Tryz.prog 8 ⟨[prjT],[],none,.p,ilT,.p,posF FO FC FH FG⟩:=by
  refine ⟨⟨Tryz.f8,Tryz.func8,by decide,rfl⟩,fun w P xs ys vs caps Ti y hb ht hv hTi hTp hcap hy => ?_⟩
  obtain ⟨p,u⟩:=xs
  change Prj at p
  cases u
  change List Int × Unit at y
  replace hv:ArgsR Tryz.prog w P .p none [prjT] (p,()) vs Ti:=hv
  replace hcap:caps = []:=hcap
  replace hy:posF FO FC FH FG (p,()) ys = some y:=hy
  simp only [ArgsR] at hv
  obtain ⟨v0,r,rfl,h0,rfl,rfl⟩:=hv
  subst hcap
  obtain ⟨n0,a1,c1,a2,c2,a3,n3,c3,a4,n4,c4,rfl,hl⟩:=prj_at2 h0
  obtain ⟨al2,cl2,hq,-,hlk⟩:=lk_at hl
  injection hq with hq1 hq2 hq3
  subst hq1 hq3
  clear hq2
  unfold posF at hy
  obtain ⟨ok,hFO,hy⟩:=Option.bind_eq_some_iff.1 hy
  have hp1:PExt [] w P (w.alloc (.cells #[.int .i64 n0,.slice a1 (List.length p.2.1) c1,.slice a2 (lnks p).length c2,.slice a3 n3 c3,.slice a4 n4 c4] 28)) P:=pext_al (PExt.refl ht) _
  have hcall:=Im hO rfl (hb.later hp1.later) hp1.there (xs:=(p,())) (vs:=[.agg #[.int .i64 n0,.slice a1 (List.length p.2.1) c1,.slice a2 (lnks p).length c2,.slice a3 n3 c3,.slice a4 n4 c4]]) (y:=ok) (by
    simp only [RepVs,Md.hd,Md.tl]
    exact ⟨_,_,[],[],rfl,rfl,keep_p h0 hp1.later,rfl,rfl⟩) hFO
  have X:AsideQ (BaseOk Tryz.prog B w P /\ There w P /\ RepV Tryz.prog prjT w P .p p (.agg #[.int .i64 n0,.slice a1 (List.length p.2.1) c1,.slice a2 (lnks p).length c2,.slice a3 n3 c3,.slice a4 n4 c4]) []):=⟨hb,ht,h0⟩
  have XL:=AsideQ.mk hlk
  have XY:=AsideQ.mk hy
  have SG:=AsideQ.mk (And.intro hC (And.intro hH (And.intro hG hT)))
  have SC:=AsideQ.mk (Tryz.cyc_ok hC hH hG hT p)
  have HA:AsideQ (PExt [] w P (w.alloc (.cells #[.int .i64 n0,.slice a1 (List.length p.2.1) c1,.slice a2 (lnks p).length c2,.slice a3 n3 c3,.slice a4 n4 c4] 28)) P /\ (w.alloc (.cells #[.int .i64 n0,.slice a1 (List.length p.2.1) c1,.slice a2 (lnks p).length c2,.slice a3 n3 c3,.slice a4 n4 c4] 28)).heap[w.heap.size]? = some (.cells #[.int .i64 n0,.slice a1 (List.length p.2.1) c1,.slice a2 (lnks p).length c2,.slice a3 n3 c3,.slice a4 n4 c4] 28 (0,0))):=⟨hp1,heap_alloc_new _ _⟩
  clear hb ht h0 hlk hl hy hC hH hG hT hO hFO hp1 hTi hTp
  go_enter Tryz.func8,Tryz.ntmps8
  go_wp2_with fail
  refine hcall.mono ?_
  rintro e w1 ⟨u,P1,rfl,hp2,hr2⟩
  simp only [RepV] at hr2
  obtain ⟨rfl,-⟩:=hr2
  clear hcall
  have R1:=AsideQ.mk (And.intro (HA.out.1.trans0 hp2) (show w1.heap[w.heap.size]? = _ from (hp2.block _ (Array.getElem?_eq_some_iff.1 HA.out.2).1 (by simp)).trans HA.out.2))
  clear HA hp2
  cases ok with
  | false =>
    go_wp2
    go_ret
    have hy:=Option.some.inj (show some (([]:List Int),()) = some y from XY.out)
    subst hy
    exact ⟨_,P1,[],[],rfl,R1.out.1,il_nil,rfl,by simp,by simp⟩
  | true =>
    have hy:(if 1000 <= (lnks p).length \/ 1000 <= List.length p.2.1 then none else _) = some y:=XY.out
    by_cases hL:1000 <= (lnks p).length \/ 1000 <= List.length p.2.1
    · rw [if_pos hL] at hy; cases hy
    · rw [if_neg hL] at hy
      obtain ⟨y1,hy1,hy2⟩:=Option.map_eq_some_iff.1 hy
      subst hy2
      clear hy
      generalize hna:List.length p.2.1 = na at *
      have HL:AsideQ ((lnks p).length < 1000 /\ na < 1000):=⟨by omega⟩
      have HY:=AsideQ.mk hy1
      clear hL hy1 XY
      obtain ⟨d0,d1,d2,d3,d4⟩:=five_at R1.out.2
      go_wp2
      clear d0 d1 d2 d3 d4
      go_loopg [3] (na - 1) (fun k s3 wr => ∃ (l:Nat) (Pr:Prot),s3 = .int .i64 (l:Int) /\ AsideQ (2 <= l /\ l + k = max na 1 + 1 /\ posO (fun len a b s => cycF (fun l => (FC (l,()) ()).map (·.1)) (fun l y => (FH (l,y,()) ()).map (·.1)) p (fun k => (FG (p,k,()) ()).map (·.1)) (len.toNat + 1) a b s len) (fun k => (FG (p,k,()) ()).map (·.1)) (lnks p) k l = some y1 /\ PExt [] w P wr Pr /\ wr.heap[w.heap.size]? = some (.cells #[.int .i64 n0,.slice a1 na c1,.slice a2 (lnks p).length c2,.slice a3 n3 c3,.slice a4 n4 c4] 28 (0,0))))
      case atStart => exact ⟨2,P1,rfl,⟨by omega,by omega,HY.out,R1.out⟩⟩
      case round =>
        clear R1 HY
        obtain ⟨l,Pr,rfl,Y⟩:=hrel
        obtain ⟨d0,d1,d2,d3,d4⟩:=five_at Y.out.2.2.2.2
        cases gk with
        | zero =>
          have hle:¬ ((l:Int) <= (na:Int)):=by have:=Y.out.1; have:=Y.out.2.1; omega
          go_wp2
          go_ret
          have hy3:=Option.some.inj (show some [] = some y1 from Y.out.2.2.1)
          subst hy3
          first | exact ⟨_,Pr,[],[],rfl,Y.out.2.2.2.1,il_nil,rfl,by simp,by simp⟩ | exact ⟨_,rfl,Pr,Y.out.2.2.2.1,[],il_nil,[],rfl,by simp,by simp⟩
        | succ k =>
          have hle:(l:Int) <= (na:Int):=by have:=Y.out.1; have:=Y.out.2.1; omega
          obtain ⟨out,ho1,ho2⟩:=Option.bind_eq_some_iff.1 (show (posI _ _ (lnks p) 0).bind _ = some y1 from Y.out.2.2.1)
          have YI:=AsideQ.mk ho1
          have YO:=AsideQ.mk ho2
          clear ho1 ho2
          go_wp2
          clear d0 d1 d2 d3 d4
          go_loopg [20] (lnks p).length (fun j s20 ws => ∃ (i:Nat) (Ps:Prot),s20 = .int .i64 (i:Int) /\ AsideQ (i + j = (lnks p).length /\ posI ((fun len a b s => cycF (fun l => (FC (l,()) ()).map (·.1)) (fun l y => (FH (l,y,()) ()).map (·.1)) p (fun k => (FG (p,k,()) ()).map (·.1)) (len.toNat + 1) a b s len) (l:Int)) (fun k => (FG (p,k,()) ()).map (·.1)) ((lnks p).drop i) i = some out /\ PExt [] wr Pr ws Ps /\ ws.heap[w.heap.size]? = some (.cells #[.int .i64 n0,.slice a1 na c1,.slice a2 (lnks p).length c2,.slice a3 n3 c3,.slice a4 n4 c4] 28 (0,0))))
          case atStart => exact ⟨0,Pr,rfl,⟨by omega,YI.out,PExt.refl Y.out.2.2.2.1.there,Y.out.2.2.2.2⟩⟩
          case round =>
            clear YI
            obtain ⟨i,Ps,rfl,Z⟩:=hrel
            cases gk with
            | zero =>
              have hi:i = (lnks p).length:=by have:=Z.out.1; omega
              subst hi
              have hni:¬ ((lnks p).length < (lnks p).length):=Nat.lt_irrefl _
              have hy3:=Z.out.2.1
              rw [List.drop_length] at hy3
              have hy3:=Option.some.inj (show some [] = some out from hy3)
              subst hy3
              have YP:=AsideQ.mk (show posO _ _ (lnks p) k (l + 1) = some y1 from YO.out)
              have IW:AsideQ (RowKit.wrap64 ((l:Int) + 1) = ((l + 1:Nat):Int)):=⟨by have:=HL.out; unfold RowKit.wrap64; omega⟩
              go_wp2
              go_roundg k
              case measure => omega
              case rel => exact ⟨l + 1,Ps,by rw [IW.out],⟨by have:=Y.out.1; omega,by have:=Y.out.2.1; omega,YP.out,Y.out.2.2.2.1.trans0 Z.out.2.2.1,Z.out.2.2.2⟩⟩
            | succ j =>
              have hi:i < (lnks p).length:=by have:=Z.out.1; omega
              obtain ⟨bk,ok,rfl,-,-,⟨e0,e1,e2,e3⟩,pp⟩:=XL.out (i:Int) (lnks p)[i] (getI_lt hi)
              simp only [Int.toNat_natCast] at e0 e1 e2 e3 pp
              have hdr:(lnks p).drop i = (lnks p)[i] :: (lnks p).drop (i + 1):=List.drop_eq_getElem_cons hi
              have hpw:=Y.out.2.2.2.1.trans0 Z.out.2.2.1
              have hold:∀ (o:Nat) (v:Value),w.cell? ⟨bk,o,none⟩ = some v -> wr.cell? ⟨bk,o,none⟩ = some v:=fun o v hc => by
                rw [World.cell?_of_block (hpw.block _ (World.block_lt_of_cell? w ⟨bk,o,none⟩ hc) (by simp))]; exact hc
              replace e0:=hold _ _ e0
              replace e1:=hold _ _ e1
              replace e2:=hold _ _ e2
              replace e3:=hold _ _ e3
              have ZD:=AsideQ.mk hdr
              have hiI:(i:Int) < ((lnks p).length:Int):=by omega
              have hi0:(0:Int) <= (i:Int):=by omega
              clear hold hdr pp
              generalize hz:(lnks p)[i] = z at *
              obtain ⟨z1,z2,z3,z4,uz⟩:=z
              clear hz
              obtain ⟨c50,c51,c52,c53,c54⟩:=five_at Z.out.2.2.2
              have hl5:w.heap.size < wr.heap.size:=World.block_lt_of_cell? wr ⟨w.heap.size,0,none⟩ c50
              have IW:AsideQ (RowKit.wrap64 ((i:Int) + 1) = ((i + 1:Nat):Int)):=⟨by have:=HL.out; unfold RowKit.wrap64; omega⟩
              have HAl:AsideQ (PExt [] wr Ps (wr.alloc (.cells #[.int .i64 z1,.int .i64 z2,.bool z3,.int .i64 z4] 63)) Ps):=⟨pext_al (PExt.refl Z.out.2.2.1.there) _⟩
              have hyc:=Z.out.2.1
              rw [ZD.out] at hyc
              obtain ⟨g,hfg,hyc2⟩:=Option.bind_eq_some_iff.1 (show Option.bind _ _ = some out from hyc)
              obtain ⟨ou,hfo,hyc3⟩:=Option.bind_eq_some_iff.1 hyc2
              have FX:=AsideQ.mk (And.intro hfg hfo)
              have Y5:=AsideQ.mk hyc3
              have YA:=AsideQ.mk Z.out.1
              clear hyc hyc2 hyc3 hfg hfo
              go_wp2
              have hp0:=hpw.trans0 HAl.out
              have hnew:(wr.alloc (.cells #[.int .i64 z1,.int .i64 z2,.bool z3,.int .i64 z4] 63)).heap[wr.heap.size]? = some (.cells #[.int .i64 z1,.int .i64 z2,.bool z3,.int .i64 z4] 63 (0,0)):=heap_alloc_new _ _
              generalize wr.alloc (.cells #[.int .i64 z1,.int .i64 z2,.bool z3,.int .i64 z4] 63) = W0 at *
              have HW:AsideQ (BaseOk Tryz.prog B W0 Ps /\ RepV Tryz.prog prjT W0 Ps .p p (.agg #[.int .i64 n0,.slice a1 na c1,.slice (some ⟨bk,ok,none⟩) (lnks p).length c2,.slice a3 n3 c3,.slice a4 n4 c4]) []):=
                ⟨X.out.1.later hp0.later,keep_p X.out.2.2 hp0.later⟩
              have p0:PExt [] W0 Ps W0 Ps:=PExt.refl HAl.out.there
              have hnl:wr.heap.size < W0.heap.size:=(Array.getElem?_eq_some_iff.1 hnew).1
              obtain ⟨f0,f1,f2,f3⟩:=four_at hnew
              have hSK:∀ (w':World) (P':Prot),PExt [] W0 Ps w' P' -> (w'.cell? ⟨w.heap.size,0,none⟩ = some (.int .i64 n0) /\ w'.cell? ⟨w.heap.size,1,none⟩ = some (.slice a1 na c1) /\ w'.cell? ⟨w.heap.size,2,none⟩ = some (.slice (some ⟨bk,ok,none⟩) (lnks p).length c2) /\ w'.cell? ⟨w.heap.size,3,none⟩ = some (.slice a3 n3 c3) /\ w'.cell? ⟨w.heap.size,4,none⟩ = some (.slice a4 n4 c4)) /\
                  (w'.cell? ⟨wr.heap.size,0,none⟩ = some (.int .i64 z1) /\ w'.cell? ⟨wr.heap.size,1,none⟩ = some (.int .i64 z2) /\ w'.cell? ⟨wr.heap.size,2,none⟩ = some (.bool z3) /\ w'.cell? ⟨wr.heap.size,3,none⟩ = some (.int .i64 z4)):=fun w' P' hp => by
                have h1:∀ (b o:Nat) (v:Value),b < wr.heap.size -> wr.cell? ⟨b,o,none⟩ = some v -> w'.cell? ⟨b,o,none⟩ = some v:=fun b o v hb hc => by
                  rw [World.cell?_of_block (hp.block b (Nat.lt_trans hb hnl) (by simp)),World.cell?_of_block (HAl.out.block _ hb (by simp))]; exact hc
                have h2:∀ (o:Nat) (v:Value),W0.cell? ⟨wr.heap.size,o,none⟩ = some v -> w'.cell? ⟨wr.heap.size,o,none⟩ = some v:=fun o v hc => by
                  rw [World.cell?_of_block (hp.block _ hnl (by simp))]; exact hc
                exact ⟨⟨h1 _ _ _ hl5 c50,h1 _ _ _ hl5 c51,h1 _ _ _ hl5 c52,h1 _ _ _ hl5 c53,h1 _ _ _ hl5 c54⟩,h2 _ _ f0,h2 _ _ f1,h2 _ _ f2,h2 _ _ f3⟩
              have SK:=AsideQ.mk hSK
              have S0:=hSK _ _ (pext_dr p0)
              clear hSK hp0 hnew c50 c51 c52 c53 c54 f0 f1 f2 f3 e0 e1 e2 e3
              have QG:=AsideQ.mk (gap_c SG.out.2.2.1 HW.out.1 HW.out.2 (fun w P => lnk_rep (u:=uz)) FX.out.1)
              go_region_held3 (fun w' => (w'.cell? ⟨w.heap.size,0,none⟩ = some (.int .i64 n0) /\ w'.cell? ⟨w.heap.size,1,none⟩ = some (.slice a1 na c1) /\ w'.cell? ⟨w.heap.size,2,none⟩ = some (.slice (some ⟨bk,ok,none⟩) (lnks p).length c2) /\ w'.cell? ⟨w.heap.size,3,none⟩ = some (.slice a3 n3 c3) /\ w'.cell? ⟨w.heap.size,4,none⟩ = some (.slice a4 n4 c4)) /\
                  (w'.cell? ⟨wr.heap.size,0,none⟩ = some (.int .i64 z1) /\ w'.cell? ⟨wr.heap.size,1,none⟩ = some (.int .i64 z2) /\ w'.cell? ⟨wr.heap.size,2,none⟩ = some (.bool z3) /\ w'.cell? ⟨wr.heap.size,3,none⟩ = some (.int .i64 z4)))
                (first | exact S0 | exact SK.out _ _ (by first | assumption | exact pext_dr p0 | exact pext_al (by assumption) _ | exact pext_dr (pext_al p0 _) | exact pext_al (pext_al (by assumption) _) _ | exact pext_dr (pext_al (pext_al p0 _) _)) | fail)
                (first
                  | (with_reducible refine (QG.out _ _ (by first | assumption | exact pext_dr p0 | exact pext_al (by assumption) _ | exact pext_dr (pext_al p0 _) | exact pext_al (pext_al (by assumption) _) _ | exact pext_dr (pext_al (pext_al p0 _) _))).mono ?_
                     rintro e w5 ⟨P5,rfl,p5,l5,s5,kk5⟩)
                  | (with_reducible refine (Acq (SC.out (l:Int) ((l:Int).toNat + 1)) HW.out.1 HW.out.2 FX.out.2 (by first | assumption | exact pext_dr p0 | exact pext_al (by assumption) _ | exact pext_dr (pext_al p0 _) | exact pext_al (pext_al (by assumption) _) _ | exact pext_dr (pext_al (pext_al p0 _) _)) (by repeat (first | exact Lq _ _ (by simp only [size_al,heap_dr]) | rw [cell_dr] | refine Eq.trans (Mx _ (by simp only [size_al,heap_dr] at *; omega)) ?_ | refine Eq.trans (World.cell?_of_block (kk5 _ (by simp only [size_al,heap_dr] at *; omega))) ?_)) (by repeat (first | exact Lq _ _ (by simp only [size_al,heap_dr]) | rw [cell_dr] | refine Eq.trans (Mx _ (by simp only [size_al,heap_dr] at *; omega)) ?_ | refine Eq.trans (World.cell?_of_block (kk5 _ (by simp only [size_al,heap_dr] at *; omega))) ?_)) (by simp only [size_al,heap_dr] at *; omega) (by simp only [size_al,heap_dr] at *; omega)).mono ?_
                     rintro e w6 ⟨u6,P6,rfl,p6,r6,n6,m6⟩)
                  | fail)
              all_goals
                have QQ:=AsideQ.mk (And.intro (HAl.out.trans0 p6) (And.intro r6 (And.intro n6 m6)))
                have QB:AsideQ (w6.heap[w.heap.size]? = some (.cells #[.int .i64 n0,.slice a1 na c1,.slice (some ⟨bk,ok,none⟩) (lnks p).length c2,.slice a3 n3 c3,.slice a4 n4 c4] 28 (0,0))):=⟨by rw [QQ.out.1.block _ hl5 (by simp)]; exact Z.out.2.2.2⟩
                clear p6 r6 n6 m6
                have hy5:=Y5.out
                by_cases ho:ou = []
                · rw [if_pos ho] at hy5
                  have hu:=QQ.out.2.2.1 ho
                  subst hu
                  have HYY:=AsideQ.mk hy5
                  clear hy5
                  go_wp2
                  go_roundg j
                  case measure => omega
                  case rel => exact ⟨i + 1,P6,by rw [IW.out],⟨by have:=YA.out; omega,HYY.out,Z.out.2.2.1.trans0 QQ.out.1,QB.out⟩⟩
                · rw [if_neg ho] at hy5
                  obtain ⟨b6,n6,c6,rfl⟩:=QQ.out.2.2.2 ho
                  have hy6:=Option.some.inj hy5
                  have hy7:=YO.out
                  rw [if_neg (by rw [<- hy6]; exact ho)] at hy7
                  have hy8:=hy6.trans (Option.some.inj hy7)
                  clear hy5 hy6 hy7
                  subst hy8
                  go_wp2
                  go_ret
                  first | exact ⟨_,P6,[],[],rfl,(Y.out.2.2.2.1.trans0 Z.out.2.2.1).trans0 QQ.out.1,QQ.out.2.1,rfl,by simp,by simp⟩ | exact ⟨_,rfl,P6,(Y.out.2.2.2.1.trans0 Z.out.2.2.1).trans0 QQ.out.1,[],QQ.out.2.1,[],rfl,by simp,by simp⟩ | fail
end
section
open Go.RowKit Go.Abs
set_option linter.unusedVariables false
set_option linter.unusedSimpArgs false
/-- blocks of one's own, by labels out of a set, and what they hold -/
structure MemD (D:Nat -> Prop) (L:Nat -> Nat) (C:Nat -> Array Value × TypeId) (w0:World) (P0:Prot) (w:World) (P:Prot):Prop where
  ext:PExt [] w0 P0 w P
  ge:∀ a,D a -> w0.heap.size <= L a
  free:∀ a,D a -> ∀ o,¬ P (L a) o
  inj:∀ a b,D a -> D b -> L a = L b -> a = b
  row:∀ a,D a -> w.heap[L a]? = some (.cells (C a).1 (C a).2 (0,0))
variable {D:Nat -> Prop} {L:Nat -> Nat} {C:Nat -> Array Value × TypeId} {w0:World} {P0:Prot} {w w':World} {P P':Prot}
theorem MemD.lt (h:MemD D L C w0 P0 w P) {a:Nat} (ha:D a):L a < w.heap.size:=(Array.getElem?_eq_some_iff.1 (h.row a ha)).1
theorem MemD.later (h:MemD D L C w0 P0 w P) (hp:PExt [] w P w' P'):MemD D L C w0 P0 w' P':=
  ⟨h.ext.trans0 hp,h.ge,fun a ha => Z4 hp (h.lt ha) (h.free a ha),h.inj,fun a ha => by rw [hp.block _ (h.lt ha) (by simp)]; exact h.row a ha⟩
theorem MemD.drew (h:MemD D L C w0 P0 w P):MemD D L C w0 P0 w.drew P:=h.later (V8 h.ext.there)
theorem MemD.alloc (h:MemD D L C w0 P0 w P) (o:Obj):MemD D L C w0 P0 (w.alloc o) P:=h.later (pext_al (PExt.refl h.ext.there) o)
theorem MemD.congr (h:MemD D L C w0 P0 w P) {D':Nat -> Prop} {L':Nat -> Nat} {C':Nat -> Array Value × TypeId} (hd:∀ a,D' a -> D a) (hl:∀ a,D' a -> L' a = L a) (hc:∀ a,D' a -> C' a = C a):MemD D' L' C' w0 P0 w P:=
  ⟨h.ext,fun a ha => by rw [hl a ha]; exact h.ge a (hd a ha),fun a ha => by rw [hl a ha]; exact h.free a (hd a ha),fun a b ha hb hab => h.inj a b (hd a ha) (hd b hb) (by rw [<- hl a ha,<- hl b hb]; exact hab),fun a ha => by rw [hl a ha,hc a ha]; exact h.row a (hd a ha)⟩
theorem MemD.push (h:MemD D L C w0 P0 w P) (q:Nat) (hq:¬ D q) (c:Array Value) (e:TypeId):MemD (fun a => D a \/ a = q) (updN L q w.heap.size) (updN C q (c,e)) w0 P0 (w.alloc (.cells c e)) P:=by
  have h':=h.alloc (.cells c e)
  have hne:∀ a,D a -> a ≠ q:=fun a ha e => hq (e ▸ ha)
  refine ⟨h'.ext,fun a ha => ?_,fun a ha o => ?_,fun a b ha hb hab => ?_,fun a ha => ?_⟩
  · rcases ha with ha | rfl
    · rw [updN_ne _ _ (hne a ha)]; exact h.ge a ha
    · rw [Bo]; exact h.ext.size
  · rcases ha with ha | rfl
    · rw [updN_ne _ _ (hne a ha)]; exact h.free a ha o
    · rw [Bo]; exact fun ho => absurd (prot_lt h.ext.there ho) (Nat.lt_irrefl _)
  · rcases ha with ha | rfl
    · rcases hb with hb | rfl
      · rw [updN_ne _ _ (hne a ha),updN_ne _ _ (hne b hb)] at hab
        exact h.inj a b ha hb hab
      · rw [Bo,updN_ne _ _ (hne a ha)] at hab
        have:=h.lt ha
        omega
    · rcases hb with hb | rfl
      · rw [Bo,updN_ne _ _ (hne b hb)] at hab
        have:=h.lt hb
        omega
      · rfl
  · rcases ha with ha | rfl
    · rw [updN_ne _ _ (hne a ha),updN_ne _ _ (hne a ha)]; exact h'.row a ha
    · rw [Bo,Bo]; exact heap_alloc_new _ _
theorem MemD.set (h:MemD D L C w0 P0 w P) {a:Nat} (ha:D a) (o:Nat) (v:Value):MemD D L (updN C a ((C a).1.setIfInBounds o v,(C a).2)) w0 P0 (w.setCell ⟨L a,o,none⟩ v) P:=by
  have hs:PExt [L a] w P (w.setCell ⟨L a,o,none⟩ v) P:=Acu h.ext.there (h.free a ha)
  refine ⟨⟨hs.os.trans h.ext.os,hs.tape.trans h.ext.tape,hs.output.trans h.ext.output,by rw [show (w.setCell ⟨L a,o,none⟩ v).heap.size = w.heap.size by simp [World.setCell]]; exact h.ext.size,fun k hk hn => ?_,by simp,h.ext.prot,h.ext.old,hs.there⟩,h.ge,h.free,h.inj,fun b hb => ?_⟩
  · have:=h.ge a ha
    rw [Gv (by omega)]
    exact h.ext.block k hk hn
  · by_cases e:b = a
    · subst e; rw [Bo]; exact Ac2 (h.row b hb) o v
    · rw [updN_ne _ _ e,Gv (fun e' => e (h.inj b a hb ha e'))]; exact h.row b hb
theorem MemD.cell (h:MemD D L C w0 P0 w P) {a:Nat} (ha:D a) {o:Nat} {v:Value} (hv:(C a).1[o]? = some v):w.cell? ⟨L a,o,none⟩ = some v:=by rw [cell_of (h.row a ha)]; exact hv
theorem MemD.frozen (h:MemD D L C w0 P0 w P) {a:Nat} (ha:D a) (o:Nat):w.frozen? ⟨L a,o,none⟩ = false:=Vj (h.row a ha) o
/-- a square of one's own is given away: what it holds is protected from now on -/
theorem MemD.given (h:MemD D L C w0 P0 w P) {K:Nat} (hK:∀ a,D a ↔ a < K) {M:Program} {t:TypeId} {n:Nat} {s:Nat} (hs:s < K) {R:Nat -> Nat} (hR:∀ i,i < n -> R i < K) {f:Nat -> Nat -> Int}
    (hC:(C s).1 = arr n fun i => .slice (some ⟨L (R i),0,none⟩) n n) (hF:∀ i,i < n -> (C (R i)).1 = arr n fun k => .int .i64 (f i k)) :
    ∃ P',PExt [] w0 P0 w P' /\ RepV M (.sl t (.sl 3 (.int .i64))) w P' .p (matL n f) (.slice (some ⟨L s,0,none⟩) n n) []:=by
  have hin:∀ a,a < K -> ∀ o,o < (C a).1.size -> P.add w ((List.range K).map L) (L a) o:=fun a ha o ho => .inr ⟨List.mem_map.2 ⟨a,List.mem_range.2 ha,rfl⟩,by
    rw [cell_of (h.row a ((hK a).2 ha))]
    exact ⟨_,Array.getElem?_eq_getElem ho⟩⟩
  refine ⟨P.add w ((List.range K).map L),h.ext.add fun b hb => ?_,mat_rep (L:=fun i => L (R i)) (es:=fun i => (C (R i)).2) (e:=(C s).2) ?_ (fun o ho => hin s hs o (by rw [hC,X0]; exact ho)) fun i hi => ⟨?_,fun o ho => hin (R i) (hR i hi) o (by rw [hF i hi,X0]; exact ho)⟩⟩
  · obtain ⟨a,ha,rfl⟩:=List.mem_map.1 hb
    exact .inl (h.ge a ((hK a).2 (List.mem_range.1 ha)))
  · rw [<- hC]; exact h.row s ((hK s).2 hs)
  · rw [<- hF i hi]; exact h.row _ ((hK _).2 (hR i hi))
/-- the two squares: boxes at 0 and 1, the lists of rows at 2 and 3, the rows at 4 + 2 i and 5 + 2 i -/
def sqC (n:Nat) (L:Nat -> Nat) (far:Nat -> Nat -> Int) (met:Nat -> Nat -> Bool):Nat -> Array Value × TypeId
  | 0 => (#[.slice (some ⟨L 2,0,none⟩) n n],57)
  | 1 => (#[.slice (some ⟨L 3,0,none⟩) n n],103)
  | 2 => (arr n fun i => .slice (some ⟨L (4 + 2 * i),0,none⟩) n n,26)
  | 3 => (arr n fun i => .slice (some ⟨L (5 + 2 * i),0,none⟩) n n,45)
  | a + 4 => if a % 2 = 0 then (arr n fun k => .int .i64 (far (a / 2) k),3) else (arr n fun k => .bool (met (a / 2) k),4)
theorem sqC_far (n:Nat) (L:Nat -> Nat) (far:Nat -> Nat -> Int) (met:Nat -> Nat -> Bool) (i:Nat):sqC n L far met (4 + 2 * i) = (arr n fun k => .int .i64 (far i k),3):=by
  rw [Nat.add_comm]
  show (if (2 * i) % 2 = 0 then _ else _) = _
  rw [if_pos (by omega),show 2 * i / 2 = i by omega]
theorem sqC_met (n:Nat) (L:Nat -> Nat) (far:Nat -> Nat -> Int) (met:Nat -> Nat -> Bool) (i:Nat):sqC n L far met (5 + 2 * i) = (arr n fun k => .bool (met i k),4):=by
  rw [show 5 + 2 * i = (2 * i + 1) + 4 by omega]
  show (if (2 * i + 1) % 2 = 0 then _ else _) = _
  rw [if_neg (by omega),show (2 * i + 1) / 2 = i by omega]
def upd2 {α:Type} (f:Nat -> Nat -> α) (i k:Nat) (v:α):Nat -> Nat -> α:=fun a b => if a = i /\ b = k then v else f a b
/-- the squares in a world -/
def Sq (n:Nat) (L:Nat -> Nat) (far:Nat -> Nat -> Int) (met:Nat -> Nat -> Bool) (w0:World) (P0:Prot) (w:World) (P:Prot):Prop:=MemD (fun a => a < 4 + 2 * n) L (sqC n L far met) w0 P0 w P
variable {n:Nat} {far:Nat -> Nat -> Int} {met:Nat -> Nat -> Bool}
theorem Sq.later (h:Sq n L far met w0 P0 w P) (hp:PExt [] w P w' P'):Sq n L far met w0 P0 w' P':=MemD.later h hp
theorem Sq.boxes (h:Sq n L far met w0 P0 w P):w.cell? ⟨L 0,0,none⟩ = some (.slice (some ⟨L 2,0,none⟩) n n) /\ w.cell? ⟨L 1,0,none⟩ = some (.slice (some ⟨L 3,0,none⟩) n n):=
  ⟨MemD.cell h (a:=0) (by omega) rfl,MemD.cell h (a:=1) (by omega) rfl⟩
theorem Sq.tops (h:Sq n L far met w0 P0 w P) {i:Nat} (hi:i < n):w.cell? ⟨L 2,i,none⟩ = some (.slice (some ⟨L (4 + 2 * i),0,none⟩) n n) /\ w.cell? ⟨L 3,i,none⟩ = some (.slice (some ⟨L (5 + 2 * i),0,none⟩) n n):=
  ⟨MemD.cell h (a:=2) (by omega) (arr_get hi),MemD.cell h (a:=3) (by omega) (arr_get hi)⟩
theorem Sq.cells (h:Sq n L far met w0 P0 w P) {i k:Nat} (hi:i < n) (hk:k < n):w.cell? ⟨L (4 + 2 * i),k,none⟩ = some (.int .i64 (far i k)) /\ w.cell? ⟨L (5 + 2 * i),k,none⟩ = some (.bool (met i k)):=
  ⟨MemD.cell h (a:=4 + 2 * i) (by omega) (by rw [sqC_far]; exact arr_get hk),MemD.cell h (a:=5 + 2 * i) (by omega) (by rw [sqC_met]; exact arr_get hk)⟩
theorem Sq.froz (h:Sq n L far met w0 P0 w P) {i:Nat} (hi:i < n) (k:Nat):w.frozen? ⟨L (4 + 2 * i),k,none⟩ = false /\ w.frozen? ⟨L (5 + 2 * i),k,none⟩ = false:=
  ⟨MemD.frozen h (a:=4 + 2 * i) (by omega) k,MemD.frozen h (a:=5 + 2 * i) (by omega) k⟩
theorem Sq.setFar (h:Sq n L far met w0 P0 w P) {i:Nat} (hi:i < n) (k:Nat) (v:Int):Sq n L (upd2 far i k v) met w0 P0 (w.setCell ⟨L (4 + 2 * i),k,none⟩ (.int .i64 v)) P:=by
  refine MemD.congr (MemD.set h (a:=4 + 2 * i) (by omega) k (.int .i64 v)) (fun a ha => ha) (fun a ha => rfl) fun a ha => ?_
  by_cases e:a = 4 + 2 * i
  · subst e
    rw [Bo,sqC_far,sqC_far,arr_set]
    refine congrArg (·,3) (Jp fun b hb => ?_)
    unfold upd2
    by_cases hb:b = k <;> simp [hb]
  · rw [updN_ne _ _ e]
    match a,e with
    | 0,_ => rfl
    | 1,_ => rfl
    | 2,_ => rfl
    | 3,_ => rfl
    | a + 4,e =>
      show (if a % 2 = 0 then _ else _) = (if a % 2 = 0 then _ else _)
      by_cases hp:a % 2 = 0
      · rw [if_pos hp,if_pos hp]
        refine congrArg (·,3) (Jp fun b hb => ?_)
        unfold upd2
        rw [if_neg (fun h => e (by omega))]
      · rw [if_neg hp,if_neg hp]
theorem Sq.setMet (h:Sq n L far met w0 P0 w P) {i:Nat} (hi:i < n) (k:Nat) (v:Bool):Sq n L far (upd2 met i k v) w0 P0 (w.setCell ⟨L (5 + 2 * i),k,none⟩ (.bool v)) P:=by
  refine MemD.congr (MemD.set h (a:=5 + 2 * i) (by omega) k (.bool v)) (fun a ha => ha) (fun a ha => rfl) fun a ha => ?_
  by_cases e:a = 5 + 2 * i
  · subst e
    rw [Bo,sqC_met,sqC_met,arr_set]
    refine congrArg (·,4) (Jp fun b hb => ?_)
    unfold upd2
    by_cases hb:b = k <;> simp [hb]
  · rw [updN_ne _ _ e]
    match a,e with
    | 0,_ => rfl
    | 1,_ => rfl
    | 2,_ => rfl
    | 3,_ => rfl
    | a + 4,e =>
      show (if a % 2 = 0 then _ else _) = (if a % 2 = 0 then _ else _)
      by_cases hp:a % 2 = 0
      · rw [if_pos hp,if_pos hp]
      · rw [if_neg hp,if_neg hp]
        refine congrArg (·,4) (Jp fun b hb => ?_)
        unfold upd2
        rw [if_neg (fun h => e (by omega))]
theorem Sq.ne (h:Sq n L far met w0 P0 w P) {a b:Nat} (ha:a < 4 + 2 * n) (hb:b < 4 + 2 * n) (hab:a ≠ b):L a ≠ L b:=fun e => hab (h.inj a b ha hb e)
/-- what the function literal add does -/
def addN (s:(Nat -> Nat -> Int) × (Nat -> Nat -> Bool)) (i k:Nat) (v:Int):(Nat -> Nat -> Int) × (Nat -> Nat -> Bool):=if s.2 i k = false \/ s.1 i k < v then (upd2 s.1 i k v,upd2 s.2 i k true) else s
end
section
set_option linter.unusedVariables false
set_option linter.unusedSimpArgs false
open Go.RowKit Go.Abs
attribute [local go_sem ↓] Go.wp_at_zero Go.wp_at_succ
set_option maxRecDepth 100000 in
set_option maxHeartbeats 4000000 in
theorem Tryz.add_ok {n:Nat} {L:Nat -> Nat} {far:Nat -> Nat -> Int} {met:Nat -> Nat -> Bool} {w0:World} {P0:Prot} {w:World} {P:Prot} (h:Sq n L far met w0 P0 w P) {i k:Nat} (hi:i < n) (hk:k < n) (hn:n < 1000) (v:Int) :
    Calls Tryz.prog 74 #[.int .i64 (i:Int),.int .i64 (k:Int),.int .i64 v,.pointer (some ⟨L 1,0,none⟩),.pointer (some ⟨L 0,0,none⟩)] w fun e w' => e = .returned (.tuple #[]) /\ Sq n L (addN (far,met) i k v).1 (addN (far,met) i k v).2 w0 P0 w' P /\ ∀ b,b ≠ L (4 + 2 * i) -> b ≠ L (5 + 2 * i) -> w'.heap[b]? = w.heap[b]?:=by
  obtain ⟨b0,b1⟩:=h.boxes
  obtain ⟨t0,t1⟩:=h.tops hi
  obtain ⟨x0,x1⟩:=h.cells hi hk
  have ZI:(0:Int) <= (i:Int):=by omega
  have ZK:(0:Int) <= (k:Int):=by omega
  have YI:(i:Int) < (n:Int):=by omega
  have YK:(k:Int) < (n:Int):=by omega
  obtain ⟨g0,g1⟩:=h.froz hi k
  have hd:Sq n L far met w0 P0 w.drew P:=MemD.drew h
  have H:=AsideQ.mk hd
  have HD:=AsideQ.mk h
  have HN:AsideQ (∀ (w':World) (P':Prot) (f':Nat -> Nat -> Int) (m':Nat -> Nat -> Bool),Sq n L f' m' w0 P0 w' P' -> (w'.cell? ⟨L 0,0,none⟩ = some (.slice (some ⟨L 2,0,none⟩) n n) /\ w'.cell? ⟨L 1,0,none⟩ = some (.slice (some ⟨L 3,0,none⟩) n n)) /\ w'.cell? ⟨L 2,i,none⟩ = some (.slice (some ⟨L (4 + 2 * i),0,none⟩) n n) /\ w'.cell? ⟨L 3,i,none⟩ = some (.slice (some ⟨L (5 + 2 * i),0,none⟩) n n)):=⟨fun w' P' f' m' h => ⟨h.boxes,h.tops hi⟩⟩
  have h1:=hd.setFar hi k v
  have h2:=(hd.setFar hi k v).setMet hi k true
  have H1:=AsideQ.mk h1
  have H2:=AsideQ.mk h2
  obtain ⟨-,y1⟩:=h1.cells hi hk
  obtain ⟨-,y2⟩:=h1.froz hi k
  have hne:L (4 + 2 * i) ≠ L (5 + 2 * i):=h.ne (by omega) (by omega) (by omega)
  clear h hd h1 h2
  by_cases hm:met i k = false
  · have e:addN (far,met) i k v = (upd2 far i k v,upd2 met i k true):=by unfold addN; rw [if_pos (.inl hm)]
    rw [e]
    rw [hm] at x1 y1
    clear e
    go_enter Tryz.func74,Tryz.ntmps74
    go_wp2
    go_region_held3 (fun w' => (w'.cell? ⟨L 0,0,none⟩ = some (.slice (some ⟨L 2,0,none⟩) n n) /\ w'.cell? ⟨L 1,0,none⟩ = some (.slice (some ⟨L 3,0,none⟩) n n)) /\ w'.cell? ⟨L 2,i,none⟩ = some (.slice (some ⟨L (4 + 2 * i),0,none⟩) n n) /\ w'.cell? ⟨L 3,i,none⟩ = some (.slice (some ⟨L (5 + 2 * i),0,none⟩) n n))
      (first | exact HN.out _ _ _ _ H.out | exact HN.out _ _ _ _ H1.out | exact HN.out _ _ _ _ H2.out | fail) (fail)
    exact bodyPost_end (results_none rfl _ _ _) rfl ⟨rfl,H2.out,fun b h1 h2 => (Gv h2).trans (Gv h1)⟩
  · have hm:met i k = true:=by simpa using hm
    rw [hm] at x1 y1
    by_cases hv:far i k < v
    · have e:addN (far,met) i k v = (upd2 far i k v,upd2 met i k true):=by unfold addN; rw [if_pos (.inr hv)]
      rw [e]
      clear e
      go_enter Tryz.func74,Tryz.ntmps74
      go_wp2
      go_region_held3 (fun w' => (w'.cell? ⟨L 0,0,none⟩ = some (.slice (some ⟨L 2,0,none⟩) n n) /\ w'.cell? ⟨L 1,0,none⟩ = some (.slice (some ⟨L 3,0,none⟩) n n)) /\ w'.cell? ⟨L 2,i,none⟩ = some (.slice (some ⟨L (4 + 2 * i),0,none⟩) n n) /\ w'.cell? ⟨L 3,i,none⟩ = some (.slice (some ⟨L (5 + 2 * i),0,none⟩) n n))
      (first | exact HN.out _ _ _ _ H.out | exact HN.out _ _ _ _ H1.out | exact HN.out _ _ _ _ H2.out | fail) (fail)
      exact bodyPost_end (results_none rfl _ _ _) rfl ⟨rfl,H2.out,fun b h1 h2 => (Gv h2).trans (Gv h1)⟩
    · have e:addN (far,met) i k v = (far,met):=by
        unfold addN
        rw [if_neg]
        rintro (h | h)
        · rw [show met i k = false from h] at hm; cases hm
        · exact hv h
      rw [e]
      clear e
      go_enter Tryz.func74,Tryz.ntmps74
      go_wp2
      exact bodyPost_end (results_none rfl _ _ _) rfl ⟨rfl,HD.out,fun b h1 h2 => rfl⟩
end
section
open Go.RowKit Go.Abs
set_option linter.unusedVariables false
set_option linter.unusedSimpArgs false
abbrev DSt:Type:=(Nat -> Nat -> Int) × (Nat -> Nat -> Bool)
def d0:DSt:=(fun _ _ => 0,fun i k => decide (k = i))
def dL (G:Lnk -> Option Int) (n:Nat):List Lnk -> DSt -> Option DSt
  | [],s => some s
  | k :: r,s => (G k).bind fun g => if (0 <= k.1 /\ k.1 < n) /\ 0 <= k.2.1 /\ k.2.1 < n then dL G n r (addN s k.1.toNat k.2.1.toNat g) else none
def dK (j i:Nat):Nat -> Nat -> DSt -> DSt
  | 0,_,s => s
  | c + 1,k,s => dK j i c (k + 1) (if s.2 i j = true /\ s.2 j k = true then addN s i k (IntKind.i64.wrap (s.1 i j + s.1 j k)) else s)
def dI (n j:Nat):Nat -> Nat -> DSt -> DSt
  | 0,_,s => s
  | c + 1,i,s => dI n j c (i + 1) (dK j i n 0 s)
def dJ (n:Nat):Nat -> Nat -> DSt -> DSt
  | 0,_,s => s
  | c + 1,j,s => dJ n c (j + 1) (dI n j n 0 s)
/-- the places that no path reaches -/
def dN1 (i:Nat):Nat -> Nat -> DSt -> DSt
  | 0,_,s => s
  | c + 1,k,s => dN1 i c (k + 1) (if s.2 i k = false then (upd2 s.1 i k (-1000),s.2) else s)
def dN (n:Nat):Nat -> Nat -> DSt -> DSt
  | 0,_,s => s
  | c + 1,i,s => dN n c (i + 1) (dN1 i n 0 s)
def distF (FO:Ty.dens [prjT] -> Unit -> Option (Bool × Unit)) (FP:Ty.dens [prjT] -> Unit -> Option (List Int × Unit)) (FG:Ty.dens [prjT,lnkT] -> Unit -> Option (Int × Unit)):Ty.dens [prjT] -> Unit -> Option (List (List Int) × Unit):=fun x _ =>
  ((FO (x.1,()) ()).map (·.1)).bind fun ok => if ok = true then ((FP (x.1,()) ()).map (·.1)).bind fun c => if c = [] then
      (if 1000 <= (lnks x.1).length \/ 1000 <= List.length x.1.2.1 then none else
        (dL (fun k => (FG (x.1,k,()) ()).map (·.1)) (List.length x.1.2.1) (lnks x.1) d0).map fun s => (matL (List.length x.1.2.1) (dN (List.length x.1.2.1) (List.length x.1.2.1) 0 (dJ (List.length x.1.2.1) (List.length x.1.2.1) 0 s)).1,()))
    else some ([],())
  else some ([],())
theorem Kk (n:Nat) (v:Value):Array.replicate n v = arr n fun _ => v:=by
  apply Array.ext
  · simp [arr]
  · intro i h1 h2
    simp [arr]
/-- the squares while the rows are made: i of them are there -/
def spC (n:Nat) (L:Nat -> Nat) (i:Nat):Nat -> Array Value × TypeId
  | 0 => (#[.slice (some ⟨L 2,0,none⟩) n n],57)
  | 1 => (#[.slice (some ⟨L 3,0,none⟩) n n],103)
  | 2 => (arr n fun k => if k < i then .slice (some ⟨L (4 + 2 * k),0,none⟩) n n else .slice none 0 0,26)
  | 3 => (arr n fun k => if k < i then .slice (some ⟨L (5 + 2 * k),0,none⟩) n n else .slice none 0 0,45)
  | a + 4 => if a % 2 = 0 then (arr n fun k => .int .i64 0,3) else (arr n fun k => .bool (decide (k = a / 2)),4)
def Sp (n:Nat) (L:Nat -> Nat) (i:Nat) (w0:World) (P0:Prot) (w:World) (P:Prot):Prop:=MemD (fun a => a < 4 + 2 * i) L (spC n L i) w0 P0 w P
variable {n:Nat} {L:Nat -> Nat} {w0:World} {P0:Prot} {w w':World} {P P':Prot}
theorem Sp.boxes {i:Nat} (h:Sp n L i w0 P0 w P):w.cell? ⟨L 0,0,none⟩ = some (.slice (some ⟨L 2,0,none⟩) n n) /\ w.cell? ⟨L 1,0,none⟩ = some (.slice (some ⟨L 3,0,none⟩) n n):=
  ⟨MemD.cell h (a:=0) (by omega) rfl,MemD.cell h (a:=1) (by omega) rfl⟩
theorem Sp.tops {i:Nat} (h:Sp n L i w0 P0 w P) (hi:i < n):w.cell? ⟨L 2,i,none⟩ = some (.slice none 0 0) /\ w.cell? ⟨L 3,i,none⟩ = some (.slice none 0 0) /\ w.frozen? ⟨L 2,i,none⟩ = false /\ w.frozen? ⟨L 3,i,none⟩ = false:=
  ⟨MemD.cell h (a:=2) (by omega) ((arr_get hi).trans (by rw [if_neg (Nat.lt_irrefl i)])),MemD.cell h (a:=3) (by omega) ((arr_get hi).trans (by rw [if_neg (Nat.lt_irrefl i)])),MemD.frozen h (a:=2) (by omega) i,MemD.frozen h (a:=3) (by omega) i⟩
theorem Sp.done (h:Sp n L n w0 P0 w P):Sq n L d0.1 d0.2 w0 P0 w P:=by
  refine MemD.congr h (fun a ha => ha) (fun a ha => rfl) fun a ha => ?_
  match a with
  | 0 => rfl
  | 1 => rfl
  | 2 => exact congrArg (·,26) (Jp fun k hk => by rw [if_pos hk])
  | 3 => exact congrArg (·,45) (Jp fun k hk => by rw [if_pos hk])
  | a + 4 => rfl
theorem top_at {w:World} {b i:Nat} {e:TypeId} {c:Array Value} (h:w.heap[b]? = some (.cells c e (0,0))) (hc:c[i]? = some (.slice none 0 0)):w.cell? ⟨b,i,none⟩ = some (.slice none 0 0) /\ w.frozen? ⟨b,i,none⟩ = false:=
  ⟨by rw [cell_of h]; exact hc,Vj h i⟩
/-- what the stores of the rows find -/
theorem W1 {i:Nat} (h:Sp n L i w0 P0 w P) (hi:i < n) (n23:L 3 ≠ L 2) :
    (∀ o,(w.alloc o).cell? ⟨L 2,i,none⟩ = some (.slice none 0 0) /\ (w.alloc o).frozen? ⟨L 2,i,none⟩ = false) /\ (∀ o o',((w.alloc o).alloc o').cell? ⟨L 2,i,none⟩ = some (.slice none 0 0) /\ ((w.alloc o).alloc o').frozen? ⟨L 2,i,none⟩ = false) /\
    (∀ o o' v,(((w.alloc o).alloc o').setCell ⟨L 2,i,none⟩ v).cell? ⟨L 3,i,none⟩ = some (.slice none 0 0) /\ (((w.alloc o).alloc o').setCell ⟨L 2,i,none⟩ v).frozen? ⟨L 3,i,none⟩ = false) /\
    (∀ o o' v,(((w.alloc o).setCell ⟨L 2,i,none⟩ v).alloc o').cell? ⟨L 3,i,none⟩ = some (.slice none 0 0) /\ (((w.alloc o).setCell ⟨L 2,i,none⟩ v).alloc o').frozen? ⟨L 3,i,none⟩ = false):=by
  have l2:L 2 < w.heap.size:=MemD.lt h (a:=2) (by omega)
  have l3:L 3 < w.heap.size:=MemD.lt h (a:=3) (by omega)
  have r2:=MemD.row h 2 (by omega)
  have r3:=MemD.row h 3 (by omega)
  have c2:(spC n L i 2).1[i]? = some (.slice none 0 0):=(arr_get hi).trans (by rw [if_neg (Nat.lt_irrefl i)])
  have c3:(spC n L i 3).1[i]? = some (.slice none 0 0):=(arr_get hi).trans (by rw [if_neg (Nat.lt_irrefl i)])
  refine ⟨fun o => top_at ((heap_alloc_old _ _ l2).trans r2) c2,fun o o' => top_at ((heap_alloc_old _ _ (by rw [size_al]; omega)).trans ((heap_alloc_old _ _ l2).trans r2)) c2,fun o o' v => ?_,fun o o' v => ?_⟩
  · exact top_at ((Gv n23).trans ((heap_alloc_old _ _ (by rw [size_al]; omega)).trans ((heap_alloc_old _ _ l3).trans r3))) c3
  · exact top_at ((heap_alloc_old _ _ (by simp [World.setCell]; omega)).trans ((Gv n23).trans ((heap_alloc_old _ _ l3).trans r3))) c3
theorem four_al {w1:World} {n:Nat} (hz:w1.heap.size = n) {a b c d:Array Value} {ea eb ec ed:TypeId} :
    ((((w1.alloc (.cells a ea)).alloc (.cells b eb)).alloc (.cells c ec)).alloc (.cells d ed)).drew.heap[n]? = some (.cells a ea (0,0)) /\ ((((w1.alloc (.cells a ea)).alloc (.cells b eb)).alloc (.cells c ec)).alloc (.cells d ed)).drew.heap[n + 1]? = some (.cells b eb (0,0)) /\
    ((((w1.alloc (.cells a ea)).alloc (.cells b eb)).alloc (.cells c ec)).alloc (.cells d ed)).drew.heap[n + 1 + 1]? = some (.cells c ec (0,0)) /\ ((((w1.alloc (.cells a ea)).alloc (.cells b eb)).alloc (.cells c ec)).alloc (.cells d ed)).drew.heap[n + 1 + 1 + 1]? = some (.cells d ed (0,0)):=by
  subst hz
  refine ⟨?_,?_,?_,?_⟩
  · rw [heap_dr,heap_alloc_old _ _ (by simp only [size_al]; omega),heap_alloc_old _ _ (by simp only [size_al]; omega),heap_alloc_old _ _ (by simp only [size_al]; omega)]; exact heap_alloc_new _ _
  · rw [heap_dr,heap_alloc_old _ _ (by simp only [size_al]; omega),heap_alloc_old _ _ (by simp only [size_al]; omega),<- size_al w1 (.cells a ea)]; exact heap_alloc_new _ _
  · rw [heap_dr,heap_alloc_old _ _ (by simp only [size_al]; omega),<- size_al w1 (.cells a ea),<- size_al _ (.cells b eb)]; exact heap_alloc_new _ _
  · rw [heap_dr,<- size_al w1 (.cells a ea),<- size_al _ (.cells b eb),<- size_al _ (.cells c ec)]; exact heap_alloc_new _ _
def lab4 (a b c d:Nat):Nat -> Nat
  | 0 => a
  | 1 => b
  | 2 => c
  | _ => d
/-- four new blocks -/
theorem Sp.start {w1 W:World} {P1:Prot} {z bf bm tf tm:Nat} (hp:PExt [] w0 P0 w1 P1) (hz:w1.heap.size = z) (hW:PExt [] w1 P1 W P1) (g1:z <= bf) (g2:z <= bm) (g3:z <= tf) (g4:z <= tm) (hne:bf ≠ bm /\ bf ≠ tf /\ bf ≠ tm /\ bm ≠ tf /\ bm ≠ tm /\ tf ≠ tm)
    (h1:W.heap[bf]? = some (.cells #[.slice (some ⟨tf,0,none⟩) n n] 57 (0,0))) (h2:W.heap[bm]? = some (.cells #[.slice (some ⟨tm,0,none⟩) n n] 103 (0,0))) (h3:W.heap[tf]? = some (.cells (Array.replicate n (.slice none 0 0)) 26 (0,0))) (h4:W.heap[tm]? = some (.cells (Array.replicate n (.slice none 0 0)) 45 (0,0))) :
    Sp n (lab4 bf bm tf tm) 0 w0 P0 W P1:=by
  subst hz
  have hfree:∀ b,w1.heap.size <= b -> ∀ o,¬ P1 b o:=fun b hb o ho => by have:=prot_lt hp.there ho; omega
  have hsz:=hp.size
  obtain ⟨n1,n2,n3,n4,n5,n6⟩:=hne
  refine ⟨hp.trans0 hW,fun a ha => ?_,fun a ha => ?_,fun a b ha hb hab => ?_,fun a ha => ?_⟩
  · match a,ha with
    | 0,_ => exact Nat.le_trans hsz g1
    | 1,_ => exact Nat.le_trans hsz g2
    | 2,_ => exact Nat.le_trans hsz g3
    | 3,_ => exact Nat.le_trans hsz g4
  · match a,ha with
    | 0,_ => exact hfree _ g1
    | 1,_ => exact hfree _ g2
    | 2,_ => exact hfree _ g3
    | 3,_ => exact hfree _ g4
  · match a,b,ha,hb,hab with
    | 0,0,_,_,_ => rfl
    | 1,1,_,_,_ => rfl
    | 2,2,_,_,_ => rfl
    | 3,3,_,_,_ => rfl
    | 0,1,_,_,h => exact absurd h n1
    | 0,2,_,_,h => exact absurd h n2
    | 0,3,_,_,h => exact absurd h n3
    | 1,0,_,_,h => exact absurd h.symm n1
    | 1,2,_,_,h => exact absurd h n4
    | 1,3,_,_,h => exact absurd h n5
    | 2,0,_,_,h => exact absurd h.symm n2
    | 2,1,_,_,h => exact absurd h.symm n4
    | 2,3,_,_,h => exact absurd h n6
    | 3,0,_,_,h => exact absurd h.symm n3
    | 3,1,_,_,h => exact absurd h.symm n5
    | 3,2,_,_,h => exact absurd h.symm n6
  · match a,ha with
    | 0,_ => exact h1
    | 1,_ => exact h2
    | 2,_ => exact h3.trans (by rw [Kk]; rfl)
    | 3,_ => exact h4.trans (by rw [Kk]; rfl)
end
section
set_option linter.unusedVariables false
set_option linter.unusedSimpArgs false
open Go.RowKit Go.Abs
attribute [local go_sem ↓] Go.wp_at_zero Go.wp_at_succ
theorem Qb (n:Nat) (v:Value):madeCells #[v] (n * 1) = Array.replicate n v:=by
  have:=Qt [v] n
  simp only [List.length_singleton] at this
  rw [this]
  apply Array.ext'
  simp
theorem Tryz.mk57 (w:World) (n:Nat) (hn:n < 1000):(Instr.makeSlice 57 (.int .i64 (n:Int)) (.int .i64 (n:Int))).run Tryz.prog w = .ok (.slice (some ⟨w.heap.size,0,none⟩) n n) (w.alloc (.cells (Array.replicate n (.slice none 0 0)) 26)):=by
  have:=run_make (P:=Tryz.prog) w 57 26 Tryz.t26 (.slice none 0 0) Tryz.underlying57 (by kernel_rfl) (by kernel_rfl) .i64 .i64 n n (by omega) (by omega) (by show ((24:Nat):Int) * _ <= _; omega) (by omega)
  rw [this]
  show Result.ok _ (w.alloc (.cells (madeCells #[Value.slice none 0 0] (n * 1)) 26)) = _
  rw [Qb]
  rfl
theorem Tryz.mk103 (w:World) (n:Nat) (hn:n < 1000):(Instr.makeSlice 103 (.int .i64 (n:Int)) (.int .i64 (n:Int))).run Tryz.prog w = .ok (.slice (some ⟨w.heap.size,0,none⟩) n n) (w.alloc (.cells (Array.replicate n (.slice none 0 0)) 45)):=by
  have:=run_make (P:=Tryz.prog) w 103 45 Tryz.t45 (.slice none 0 0) Tryz.underlying103 (by kernel_rfl) (by kernel_rfl) .i64 .i64 n n (by omega) (by omega) (by show ((24:Nat):Int) * _ <= _; omega) (by omega)
  rw [this]
  show Result.ok _ (w.alloc (.cells (madeCells #[Value.slice none 0 0] (n * 1)) 45)) = _
  rw [Qb]
  rfl
theorem Tryz.mk26 (w:World) (n:Nat) (hn:n < 1000):(Instr.makeSlice 26 (.int .i64 (n:Int)) (.int .i64 (n:Int))).run Tryz.prog w = .ok (.slice (some ⟨w.heap.size,0,none⟩) n n) (w.alloc (.cells (Array.replicate n (.int .i64 0)) 3)):=by
  have:=run_make (P:=Tryz.prog) w 26 3 Tryz.t3 (.int .i64 0) Tryz.underlying26 (by kernel_rfl) (by kernel_rfl) .i64 .i64 n n (by omega) (by omega) (by show ((8:Nat):Int) * _ <= _; omega) (by omega)
  rw [this]
  show Result.ok _ (w.alloc (.cells (madeCells #[Value.int .i64 0] (n * 1)) 3)) = _
  rw [Qb]
  rfl
theorem Tryz.mk45 (w:World) (n:Nat) (hn:n < 1000):(Instr.makeSlice 45 (.int .i64 (n:Int)) (.int .i64 (n:Int))).run Tryz.prog w = .ok (.slice (some ⟨w.heap.size,0,none⟩) n n) (w.alloc (.cells (Array.replicate n (.bool false)) 4)):=by
  have:=run_make (P:=Tryz.prog) w 45 4 Tryz.t4 (.bool false) Tryz.underlying45 (by kernel_rfl) (by kernel_rfl) .i64 .i64 n n (by omega) (by omega) (by show ((1:Nat):Int) * _ <= _; omega) (by omega)
  rw [this]
  show Result.ok _ (w.alloc (.cells (madeCells #[Value.bool false] (n * 1)) 4)) = _
  rw [Qb]
  rfl
end
section
open Go.RowKit Go.Abs
set_option linter.unusedVariables false
set_option linter.unusedSimpArgs false
def rowL (L:Nat -> Nat) (i rf rm:Nat):Nat -> Nat:=fun a => if a = 4 + 2 * i then rf else if a = 5 + 2 * i then rm else L a
def rowC (n:Nat) (L:Nat -> Nat) (i:Nat):Nat -> Array Value × TypeId:=fun a => if a = 5 + 2 * i then (arr n fun _ => .bool false,4) else spC n L (i + 1) a
theorem rowC_eq {n i rf rm:Nat} {L:Nat -> Nat} {C:Nat -> Array Value × TypeId} (h4:C (4 + 2 * i) = (arr n fun _ => .int .i64 0,3)) (h5:C (5 + 2 * i) = (arr n fun _ => .bool false,4)) (h2:C 2 = ((spC n L i 2).1.setIfInBounds i (.slice (some ⟨rf,0,none⟩) n n),26)) (h3:C 3 = ((spC n L i 3).1.setIfInBounds i (.slice (some ⟨rm,0,none⟩) n n),45))
    (hc:∀ a,a < 4 + 2 * i -> a ≠ 2 -> a ≠ 3 -> C a = spC n L i a):∀ a,a < 4 + 2 * (i + 1) -> rowC n (rowL L i rf rm) i a = C a:=by
  intro a ha
  unfold rowC
  by_cases e5:a = 5 + 2 * i
  · rw [if_pos e5,e5,h5]
  rw [if_neg e5]
  by_cases e4:a = 4 + 2 * i
  · rw [e4,h4,show 4 + 2 * i = 2 * i + 4 from Nat.add_comm _ _]
    show (if (2 * i) % 2 = 0 then _ else _) = _
    rw [if_pos (by omega)]
  have hs:∀ a,a < 4 -> rowL L i rf rm a = L a:=fun a ha => by unfold rowL; rw [if_neg (by omega),if_neg (by omega)]
  match a,ha,e4,e5 with
  | 0,_,_,_ =>
    rw [hc 0 (by omega) (by omega) (by omega)]
    show (#[Value.slice (some ⟨rowL L i rf rm 2,0,none⟩) n n],57) = _
    rw [hs 2 (by omega)]
    rfl
  | 1,_,_,_ =>
    rw [hc 1 (by omega) (by omega) (by omega)]
    show (#[Value.slice (some ⟨rowL L i rf rm 3,0,none⟩) n n],103) = _
    rw [hs 3 (by omega)]
    rfl
  | 2,_,_,_ =>
    rw [h2]
    show (arr n _,26) = ((arr n _).setIfInBounds i _,26)
    rw [arr_set]
    refine congrArg (·,26) (Jp fun k hk => ?_)
    by_cases hki:k = i
    · subst hki
      rw [if_pos (Nat.lt_succ_self k),if_pos rfl]
      unfold rowL
      rw [if_pos rfl]
    · rw [if_neg hki]
      by_cases hlt:k < i
      · rw [if_pos (by omega),if_pos hlt]
        unfold rowL
        rw [if_neg (by omega),if_neg (by omega)]
      · rw [if_neg (by omega),if_neg hlt]
  | 3,_,_,_ =>
    rw [h3]
    show (arr n _,45) = ((arr n _).setIfInBounds i _,45)
    rw [arr_set]
    refine congrArg (·,45) (Jp fun k hk => ?_)
    by_cases hki:k = i
    · subst hki
      rw [if_pos (Nat.lt_succ_self k),if_pos rfl]
      unfold rowL
      rw [if_neg (by omega),if_pos rfl]
    · rw [if_neg hki]
      by_cases hlt:k < i
      · rw [if_pos (by omega),if_pos hlt]
        unfold rowL
        rw [if_neg (by omega),if_neg (by omega)]
      · rw [if_neg (by omega),if_neg hlt]
  | a + 4,ha,e4,e5 =>
    rw [hc (a + 4) (by omega) (by omega) (by omega)]
    rfl
variable {n i:Nat} {L:Nat -> Nat} {w0:World} {P0:Prot} {w:World} {P:Prot}
theorem updN2 {L:Nat -> Nat} {p q x y a:Nat} (h1:a ≠ p) (h2:a ≠ q):updN (updN L p x) q y a = L a:=by rw [updN_ne _ _ h2,updN_ne _ _ h1]
theorem rows_a (h:Sp n L i w0 P0 w P):MemD (fun a => a < 4 + 2 * (i + 1)) (rowL L i w.heap.size (w.heap.size + 1)) (rowC n (rowL L i w.heap.size (w.heap.size + 1)) i) w0 P0
    ((((w.alloc (.cells (Array.replicate n (.int .i64 0)) 3)).alloc (.cells (Array.replicate n (.bool false)) 4)).setCell ⟨L 2,i,none⟩ (.slice (some ⟨w.heap.size,0,none⟩) n n)).setCell ⟨L 3,i,none⟩ (.slice (some ⟨w.heap.size + 1,0,none⟩) n n)).drew P:=by
  have h1:=MemD.push h (4 + 2 * i) (by omega) (Array.replicate n (.int .i64 0)) 3
  have h2:=h1.push (5 + 2 * i) (by omega) (Array.replicate n (.bool false)) 4
  have h3:=h2.set (a:=2) (by omega) i (.slice (some ⟨w.heap.size,0,none⟩) n n)
  have h4:=(h3.set (a:=3) (by omega) i (.slice (some ⟨w.heap.size + 1,0,none⟩) n n)).drew
  rw [updN2 (L:=L) (a:=2) (by omega) (by omega),updN2 (L:=L) (a:=3) (by omega) (by omega)] at h4
  refine MemD.congr (D':=fun a => a < 4 + 2 * (i + 1)) h4 (fun a ha => by omega) (fun a ha => ?_) (rowC_eq ?_ ?_ ?_ ?_ ?_)
  · unfold rowL updN
    by_cases e4:a = 4 + 2 * i
    · rw [if_pos e4,if_neg (by omega),if_pos e4]
    · rw [if_neg e4]
      by_cases e5:a = 5 + 2 * i
      · rw [if_pos e5,if_pos e5,size_al]
      · rw [if_neg e5,if_neg e5,if_neg e4]
  · rw [updN_ne _ _ (by omega),updN_ne _ _ (by omega),updN_ne _ _ (by omega),Bo,Kk]
  · rw [updN_ne _ _ (by omega),updN_ne _ _ (by omega),Bo,Kk]
  · rw [updN_ne _ _ (by omega),Bo,updN_ne _ _ (by omega),updN_ne _ _ (by omega)]; rfl
  · rw [Bo,updN_ne _ _ (by omega),updN_ne _ _ (by omega),updN_ne _ _ (by omega)]; rfl
  · intro a ha e2 e3
    rw [updN_ne _ _ e3,updN_ne _ _ e2,updN_ne _ _ (by omega),updN_ne _ _ (by omega)]
theorem rows_b (h:Sp n L i w0 P0 w P):MemD (fun a => a < 4 + 2 * (i + 1)) (rowL L i w.heap.size (w.heap.size + 1)) (rowC n (rowL L i w.heap.size (w.heap.size + 1)) i) w0 P0
    ((((w.alloc (.cells (Array.replicate n (.int .i64 0)) 3)).setCell ⟨L 2,i,none⟩ (.slice (some ⟨w.heap.size,0,none⟩) n n)).alloc (.cells (Array.replicate n (.bool false)) 4)).setCell ⟨L 3,i,none⟩ (.slice (some ⟨w.heap.size + 1,0,none⟩) n n)).drew P:=by
  have h1:=MemD.push h (4 + 2 * i) (by omega) (Array.replicate n (.int .i64 0)) 3
  have h2:=h1.set (a:=2) (by omega) i (.slice (some ⟨w.heap.size,0,none⟩) n n)
  rw [updN_ne (k:=4 + 2 * i) L _ (i:=2) (by omega)] at h2
  have h3:=h2.push (5 + 2 * i) (by omega) (Array.replicate n (.bool false)) 4
  have h4:=(h3.set (a:=3) (by omega) i (.slice (some ⟨w.heap.size + 1,0,none⟩) n n)).drew
  rw [updN2 (L:=L) (a:=3) (by omega) (by omega)] at h4
  refine MemD.congr (D':=fun a => a < 4 + 2 * (i + 1)) h4 (fun a ha => by omega) (fun a ha => ?_) (rowC_eq ?_ ?_ ?_ ?_ ?_)
  · unfold rowL updN
    by_cases e4:a = 4 + 2 * i
    · rw [if_pos e4,if_neg (by omega),if_pos e4]
    · rw [if_neg e4]
      by_cases e5:a = 5 + 2 * i
      · rw [if_pos e5,if_pos e5]; simp [World.setCell]
      · rw [if_neg e5,if_neg e5,if_neg e4]
  · rw [updN_ne _ _ (by omega),updN_ne _ _ (by omega),updN_ne _ _ (by omega),Bo,Kk]
  · rw [updN_ne _ _ (by omega),Bo,Kk]
  · rw [updN_ne _ _ (by omega),updN_ne _ _ (by omega),Bo,updN_ne _ _ (by omega)]; rfl
  · rw [Bo,updN_ne _ _ (by omega),updN_ne _ _ (by omega),updN_ne _ _ (by omega)]; rfl
  · intro a ha e2 e3
    rw [updN_ne _ _ e3,updN_ne _ _ (by omega),updN_ne _ _ e2,updN_ne _ _ (by omega)]
theorem rows_c (h:Sp n L i w0 P0 w P):MemD (fun a => a < 4 + 2 * (i + 1)) (rowL L i (w.heap.size + 1) w.heap.size) (rowC n (rowL L i (w.heap.size + 1) w.heap.size) i) w0 P0
    ((((w.alloc (.cells (Array.replicate n (.bool false)) 4)).alloc (.cells (Array.replicate n (.int .i64 0)) 3)).setCell ⟨L 2,i,none⟩ (.slice (some ⟨w.heap.size + 1,0,none⟩) n n)).setCell ⟨L 3,i,none⟩ (.slice (some ⟨w.heap.size,0,none⟩) n n)).drew P:=by
  have h1:=MemD.push h (5 + 2 * i) (by omega) (Array.replicate n (.bool false)) 4
  have h2:=h1.push (4 + 2 * i) (by omega) (Array.replicate n (.int .i64 0)) 3
  have h3:=h2.set (a:=2) (by omega) i (.slice (some ⟨w.heap.size + 1,0,none⟩) n n)
  have h4:=(h3.set (a:=3) (by omega) i (.slice (some ⟨w.heap.size,0,none⟩) n n)).drew
  rw [updN2 (L:=L) (a:=2) (by omega) (by omega),updN2 (L:=L) (a:=3) (by omega) (by omega)] at h4
  refine MemD.congr (D':=fun a => a < 4 + 2 * (i + 1)) h4 (fun a ha => by omega) (fun a ha => ?_) (rowC_eq ?_ ?_ ?_ ?_ ?_)
  · unfold rowL updN
    by_cases e4:a = 4 + 2 * i
    · rw [if_pos e4,if_pos e4,size_al]
    · rw [if_neg e4,if_neg e4]
  · rw [updN_ne _ _ (by omega),updN_ne _ _ (by omega),Bo,Kk]
  · rw [updN_ne _ _ (by omega),updN_ne _ _ (by omega),updN_ne _ _ (by omega),Bo,Kk]
  · rw [updN_ne _ _ (by omega),Bo,updN_ne _ _ (by omega),updN_ne _ _ (by omega)]; rfl
  · rw [Bo,updN_ne _ _ (by omega),updN_ne _ _ (by omega),updN_ne _ _ (by omega)]; rfl
  · intro a ha e2 e3
    rw [updN_ne _ _ e3,updN_ne _ _ e2,updN_ne _ _ (by omega),updN_ne _ _ (by omega)]
/-- the point on the diagonal -/
theorem Rp (h:MemD (fun a => a < 4 + 2 * (i + 1)) L (rowC n L i) w0 P0 w P):Sp n L (i + 1) w0 P0 (w.setCell ⟨L (5 + 2 * i),i,none⟩ (.bool true)) P:=by
  refine MemD.congr (h.set (a:=5 + 2 * i) (by omega) i (.bool true)) (fun a ha => ha) (fun a ha => rfl) fun a ha => ?_
  by_cases e:a = 5 + 2 * i
  · subst e
    have e1:spC n L (i + 1) (5 + 2 * i) = (arr n fun k => .bool (decide (k = i)),4):=by
      rw [show 5 + 2 * i = (2 * i + 1) + 4 by omega]
      show (if (2 * i + 1) % 2 = 0 then _ else _) = _
      rw [if_neg (by omega),show (2 * i + 1) / 2 = i by omega]
    have e2:rowC n L i (5 + 2 * i) = (arr n fun _ => .bool false,4):=by unfold rowC; rw [if_pos rfl]
    rw [Bo,e1,e2]
    show _ = ((arr n _).setIfInBounds i _,4)
    rw [arr_set]
    refine congrArg (·,4) (Jp fun k hk => ?_)
    by_cases hki:k = i <;> simp [hki]
  · rw [updN_ne _ _ e]
    unfold rowC
    rw [if_neg e]
theorem Qy (h:MemD (fun a => a < 4 + 2 * (i + 1)) L (rowC n L i) w0 P0 w P) (hi:i < n):w.cell? ⟨L 1,0,none⟩ = some (.slice (some ⟨L 3,0,none⟩) n n) /\ w.cell? ⟨L 3,i,none⟩ = some (.slice (some ⟨L (5 + 2 * i),0,none⟩) n n) /\ w.cell? ⟨L (5 + 2 * i),i,none⟩ = some (.bool false) /\ w.frozen? ⟨L (5 + 2 * i),i,none⟩ = false:=by
  have e1:rowC n L i 1 = (#[.slice (some ⟨L 3,0,none⟩) n n],103):=by unfold rowC; rw [if_neg (by omega)]; rfl
  have e3:rowC n L i 3 = (arr n fun k => if k < i + 1 then .slice (some ⟨L (5 + 2 * k),0,none⟩) n n else .slice none 0 0,45):=by unfold rowC; rw [if_neg (by omega)]; rfl
  have e5:rowC n L i (5 + 2 * i) = (arr n fun _ => .bool false,4):=by unfold rowC; rw [if_pos rfl]
  exact ⟨h.cell (a:=1) (by omega) (by rw [e1]; rfl),h.cell (a:=3) (by omega) (by rw [e3]; exact (arr_get hi).trans (by rw [if_pos (Nat.lt_succ_self i)])),h.cell (a:=5 + 2 * i) (by omega) (by rw [e5]; exact arr_get hi),h.frozen (a:=5 + 2 * i) (by omega) i⟩
end
section
set_option linter.unusedVariables false
set_option linter.unusedSimpArgs false
open Go.RowKit Go.Abs
attribute [local go_sem ↓] Go.wp_at_zero Go.wp_at_succ
set_option maxRecDepth 100000 in
set_option maxHeartbeats 4000000 in
theorem Tryz.dist_ok {B:Base} {FO:Ty.dens [prjT] -> Unit -> Option (Bool × Unit)} {FP:Ty.dens [prjT] -> Unit -> Option (List Int × Unit)} {FG:Ty.dens [prjT,lnkT] -> Unit -> Option (Int × Unit)}
    (hO:SigB B Tryz.prog 27 ⟨[prjT],[],none,.p,.bool,.p,FO⟩) (hP:SigB B Tryz.prog 8 ⟨[prjT],[],none,.p,ilT,.p,FP⟩) (hG:SigB B Tryz.prog 37 ⟨[prjT,lnkT],[],none,.p,.int .i64,.p,FG⟩) :
    SigB B Tryz.prog 31 ⟨[prjT],[],none,.p,.sl 26 ilT,.p,distF FO FP FG⟩:=by
  refine ⟨⟨Tryz.f31,Tryz.func31,by decide,rfl⟩,fun w P xs ys vs caps Ti y hb ht hv hTi hTp hcap hy => ?_⟩
  obtain ⟨p,u⟩:=xs
  change Prj at p
  cases u
  change List (List Int) × Unit at y
  replace hv:ArgsR Tryz.prog w P .p none [prjT] (p,()) vs Ti:=hv
  replace hcap:caps = []:=hcap
  replace hy:distF FO FP FG (p,()) ys = some y:=hy
  simp only [ArgsR] at hv
  obtain ⟨v0,r,rfl,h0,rfl,rfl⟩:=hv
  subst hcap
  obtain ⟨n0,a1,c1,a2,c2,a3,n3,c3,a4,n4,c4,rfl,hl⟩:=prj_at2 h0
  obtain ⟨al2,cl2,hq,-,hlk⟩:=lk_at hl
  injection hq with hq1 hq2 hq3
  subst hq1 hq3
  clear hq2
  unfold distF at hy
  obtain ⟨ok,hFO,hy⟩:=Option.bind_eq_some_iff.1 hy
  have hp1:PExt [] w P (w.alloc (.cells #[.int .i64 n0,.slice a1 (List.length p.2.1) c1,.slice a2 (lnks p).length c2,.slice a3 n3 c3,.slice a4 n4 c4] 28)) P:=pext_al (PExt.refl ht) _
  have hcall:=Im hO rfl (hb.later hp1.later) hp1.there (xs:=(p,())) (vs:=[.agg #[.int .i64 n0,.slice a1 (List.length p.2.1) c1,.slice a2 (lnks p).length c2,.slice a3 n3 c3,.slice a4 n4 c4]]) (y:=ok) (by
    simp only [RepVs,Md.hd,Md.tl]
    exact ⟨_,_,[],[],rfl,rfl,keep_p h0 hp1.later,rfl,rfl⟩) hFO
  have X:AsideQ (BaseOk Tryz.prog B w P /\ There w P /\ RepV Tryz.prog prjT w P .p p (.agg #[.int .i64 n0,.slice a1 (List.length p.2.1) c1,.slice a2 (lnks p).length c2,.slice a3 n3 c3,.slice a4 n4 c4]) []):=⟨hb,ht,h0⟩
  have XL:=AsideQ.mk hlk
  have XY:=AsideQ.mk hy
  have SG:=AsideQ.mk (And.intro hP hG)
  have HA:AsideQ (PExt [] w P (w.alloc (.cells #[.int .i64 n0,.slice a1 (List.length p.2.1) c1,.slice a2 (lnks p).length c2,.slice a3 n3 c3,.slice a4 n4 c4] 28)) P /\ (w.alloc (.cells #[.int .i64 n0,.slice a1 (List.length p.2.1) c1,.slice a2 (lnks p).length c2,.slice a3 n3 c3,.slice a4 n4 c4] 28)).heap[w.heap.size]? = some (.cells #[.int .i64 n0,.slice a1 (List.length p.2.1) c1,.slice a2 (lnks p).length c2,.slice a3 n3 c3,.slice a4 n4 c4] 28 (0,0))):=⟨hp1,heap_alloc_new _ _⟩
  clear hb ht h0 hlk hl hy hG hO hP hFO hp1 hTi hTp
  go_enter Tryz.func31,Tryz.ntmps31
  go_wp2_with fail
  refine hcall.mono ?_
  rintro e w1 ⟨u,P1,rfl,hp2,hr2⟩
  simp only [RepV] at hr2
  obtain ⟨rfl,-⟩:=hr2
  clear hcall
  have R1:=AsideQ.mk (And.intro (HA.out.1.trans0 hp2) (show w1.heap[w.heap.size]? = _ from (hp2.block _ (Array.getElem?_eq_some_iff.1 HA.out.2).1 (by simp)).trans HA.out.2))
  clear HA hp2
  cases ok with
  | false =>
    go_wp2
    go_ret
    have hy:=Option.some.inj (show some (([]:List (List Int)),()) = some y from XY.out)
    subst hy
    have hz:RepV Tryz.prog (.sl 26 ilT) w1 P1 .p ([]:List (List Int)) (.slice none 0 0) []:=by simp only [RepV]; exact ⟨rfl,.inl ⟨rfl,none,rfl⟩⟩
    exact ⟨_,P1,[],[],rfl,R1.out.1,hz,rfl,by simp,by simp⟩
  | true =>
    obtain ⟨c,hFP,hy⟩:=Option.bind_eq_some_iff.1 (show (Option.map _ (FP (p,()) ())).bind _ = some y from XY.out)
    have hcall:=Im SG.out.1 rfl (X.out.1.later R1.out.1.later) R1.out.1.there (xs:=(p,())) (vs:=[.agg #[.int .i64 n0,.slice a1 (List.length p.2.1) c1,.slice a2 (lnks p).length c2,.slice a3 n3 c3,.slice a4 n4 c4]]) (y:=c) (by
      simp only [RepVs,Md.hd,Md.tl]
      exact ⟨_,_,[],[],rfl,rfl,keep_p X.out.2.2 R1.out.1.later,rfl,rfl⟩) hFP
    have HY:=AsideQ.mk hy
    clear XY hFP hy
    obtain ⟨d0,d1,d2,d3,d4⟩:=five_at R1.out.2
    go_wp2_with fail
    refine hcall.mono ?_
    rintro e w2 ⟨u,P2,rfl,hp2,hr2⟩
    obtain ⟨au,cu,rfl,-⟩:=il_at hr2
    clear hcall d0 d1 d2 d3 d4
    have R2:=AsideQ.mk (And.intro (R1.out.1.trans0 hp2) (show w2.heap[w.heap.size]? = _ from (hp2.block _ (Array.getElem?_eq_some_iff.1 R1.out.2).1 (by simp)).trans R1.out.2))
    clear R1 hp2 hr2
    by_cases hc:c = []
    · subst hc
      have hy:(if 1000 <= (lnks p).length \/ 1000 <= List.length p.2.1 then none else _) = some y:=HY.out
      by_cases hL:1000 <= (lnks p).length \/ 1000 <= List.length p.2.1
      · rw [if_pos hL] at hy; cases hy
      · rw [if_neg hL] at hy
        obtain ⟨s0,hy1,hy2⟩:=Option.map_eq_some_iff.1 hy
        subst hy2
        clear hy
        generalize hna:List.length p.2.1 = n at *
        have hn1:(0:Int) <= (n:Int):=by omega
        have hn2:(n:Int) < 1000:=by omega
        have HL:AsideQ ((lnks p).length < 1000 /\ n < 1000):=⟨by omega⟩
        clear HY
        have HY:=AsideQ.mk hy1
        clear hL hy1
        obtain ⟨d0,d1,d2,d3,d4⟩:=five_at R2.out.2
        go_wp2
        clear d0 d1 d2 d3 d4
        have hk57:=fun w:World => Tryz.mk57 w n HL.out.2
        have hk103:=fun w:World => Tryz.mk103 w n HL.out.2
        rename_i Q K hK
        have main0:AsideQ (∀ (L:Nat -> Nat) (W:World),Sp n L 0 w2 P2 W P2 -> K { tmps:=#[.agg #[.int .i64 n0,.slice a1 n c1,.slice a2 (lnks p).length c2,.slice a3 n3 c3,.slice a4 n4 c4],.pointer (some ⟨w.heap.size,0,none⟩),.slice none 0 0,.int .i64 (n:Int),.pointer (some ⟨L 0,0,none⟩),.pointer (some ⟨L 1,0,none⟩),undef,undef,undef,undef,undef,undef,undef,undef,undef,.agg #[.int .i64 n0,.slice a1 n c1,.slice a2 (lnks p).length c2,.slice a3 n3 c3,.slice a4 n4 c4],.bool true,.bool false,.bool false,.agg #[.int .i64 n0,.slice a1 n c1,.slice a2 (lnks p).length c2,.slice a3 n3 c3,.slice a4 n4 c4],.slice au 0 cu,.int .i64 0,.bool false,.bool false,.pointer (some ⟨w.heap.size,1,none⟩),.slice a1 n c1,.int .i64 (n:Int),.int .i64 (n:Int),.slice (some ⟨L 2,0,none⟩) n n,.int .i64 (n:Int),.slice (some ⟨L 3,0,none⟩) n n,undef,undef,undef,undef,undef,undef,undef,undef,undef,undef,undef,undef,undef,undef,undef,undef,undef,undef,undef,undef,undef,undef,undef,undef,undef,undef,undef,undef,undef,undef,undef,undef,undef,undef,undef,undef,undef,undef,undef,undef,undef,undef,undef,undef,undef,undef,undef,undef,undef,undef,undef,undef,undef,undef,undef,undef,undef,undef,undef,undef,undef,undef,undef,undef,undef,undef,undef,undef,undef,undef,undef,undef,undef,undef,undef,undef,undef,undef,undef,undef,undef,undef,undef,undef,undef,undef,undef,undef,undef,undef,undef,undef,undef,undef,undef,undef,undef,undef,undef,undef,undef,undef,undef,undef,undef,undef,undef,undef,undef,undef,undef,undef,undef,undef],defers:=[] } W):=by
          refine ⟨?_⟩
          clear hk57 hk103
          intro L W hS
          refine hK _ _ ?_
          have SH:=AsideQ.mk hS
          have BX:AsideQ (∀ (w':World) (P':Prot),PExt [] w2 P2 w' P' -> w'.heap[w.heap.size]? = some (.cells #[.int .i64 n0,.slice a1 n c1,.slice a2 (lnks p).length c2,.slice a3 n3 c3,.slice a4 n4 c4] 28 (0,0))):=⟨fun w' P' hp => (hp.block _ (Array.getElem?_eq_some_iff.1 R2.out.2).1 (by simp)).trans R2.out.2⟩
          clear hS
          go_wp2
          go_loopg [32] n (fun k s32 wr => ∃ (i:Nat) (L':Nat -> Nat) (Pr:Prot),s32 = .int .i64 (i:Int) /\ L' 0 = L 0 /\ L' 1 = L 1 /\ AsideQ (i + k = n /\ Sp n L' i w2 P2 wr Pr))
          case atStart => exact ⟨0,L,P2,rfl,rfl,rfl,⟨by omega,SH.out⟩⟩
          case round =>
            obtain ⟨i,L',Pr,rfl,hL0,hL1,Y⟩:=hrel
            cases gk with
            | zero =>
              have hi:n = i:=by have:=Y.out.1; omega
              subst hi
              have hni:¬ ((n:Int) < (n:Int)):=Int.lt_irrefl _
              have SQ:=AsideQ.mk (Sp.done Y.out.2)
              obtain ⟨d0,d1,d2,d3,d4⟩:=five_at (BX.out _ _ SQ.out.ext)
              clear Y
              rw [<- hL0,<- hL1]
              clear hL0 hL1 SH
              go_wp2
              clear d0 d1 d2 d3 d4
              go_loopg [56] (lnks p).length (fun k s56 wr => ∃ (j:Nat) (s:DSt) (Ps:Prot),s56 = .int .i64 (j:Int) /\ AsideQ (j + k = (lnks p).length /\ dL (fun k => (FG (p,k,()) ()).map (·.1)) n ((lnks p).drop j) s = some s0 /\ Sq n L' s.1 s.2 w2 P2 wr Ps))
              case atStart => exact ⟨0,Go.Proofs.d0,Pr,rfl,⟨by omega,HY.out,SQ.out⟩⟩
              case round =>
                obtain ⟨j,s,Ps,rfl,Z⟩:=hrel
                cases gk with
                | zero =>
                  have hj:j = (lnks p).length:=by have:=Z.out.1; omega
                  have hnj:¬ ((j:Int) < ((lnks p).length:Int)):=by omega
                  have hz:=Z.out.2.1
                  rw [hj,List.drop_length] at hz
                  have hz:=Option.some.inj (show some s = some s0 from hz)
                  subst hz
                  have S1:=AsideQ.mk Z.out.2.2
                  clear Z
                  go_wp2
                  go_loopg [71] n (fun k s71 wr => ∃ (j:Nat) (t:DSt) (Ps:Prot),s71 = .int .i64 (j:Int) /\ AsideQ (j + k = n /\ dJ n k j t = dJ n n 0 s /\ Sq n L' t.1 t.2 w2 P2 wr Ps))
                  case atStart => exact ⟨0,s,Ps,rfl,⟨by omega,rfl,S1.out⟩⟩
                  case round =>
                    obtain ⟨j,t,Ps,rfl,A⟩:=hrel
                    cases gk with
                    | zero =>
                      have hj:¬ ((j:Int) < (n:Int)):=by have:=A.out.1; omega
                      have S2:=AsideQ.mk (And.intro (show t = dJ n n 0 s from A.out.2.1) A.out.2.2)
                      clear A
                      go_wp2
                      go_loopg [121] n (fun k s121 wr => ∃ (i:Nat) (u:DSt) (Ps:Prot),s121 = .int .i64 (i:Int) /\ AsideQ (i + k = n /\ dN n k i u = dN n n 0 t /\ Sq n L' u.1 u.2 w2 P2 wr Ps))
                      case atStart => exact ⟨0,t,Ps,rfl,⟨by omega,rfl,S2.out.2⟩⟩
                      case round =>
                        obtain ⟨i,u,Ps,rfl,A⟩:=hrel
                        cases gk with
                        | zero =>
                          have hi:¬ ((i:Int) < (n:Int)):=by have:=A.out.1; omega
                          have hu:u = dN n n 0 (dJ n n 0 s):=by rw [<- S2.out.1]; exact A.out.2.1
                          obtain ⟨b0,b1⟩:=A.out.2.2.boxes
                          obtain ⟨PF,hp9,hr9⟩:=MemD.given (M:=Tryz.prog) (t:=26) (n:=n) (s:=2) (K:=4 + 2 * n) (R:=fun i => 4 + 2 * i) (f:=u.1) A.out.2.2 (fun a => Iff.rfl) (by omega) (fun i hi => by show 4 + 2 * i < _; omega) rfl (fun i hi => by show (sqC n L' u.1 u.2 (4 + 2 * i)).1 = _; rw [sqC_far])
                          have S9:=AsideQ.mk (And.intro (R2.out.1.trans0 hp9) hr9)
                          clear hp9 hr9
                          go_wp2
                          go_ret
                          rw [<- hu]
                          first | exact ⟨_,PF,[],[],rfl,S9.out.1,S9.out.2,rfl,by simp,by simp⟩ | exact ⟨_,rfl,PF,S9.out.1,[],S9.out.2,[],rfl,by simp,by simp⟩ | fail
                        | succ a =>
                          have hi:(i:Int) < (n:Int):=by have:=A.out.1; omega
                          have hiN:i < n:=by omega
                          have IWi:AsideQ (RowKit.wrap64 ((i:Int) + 1) = ((i + 1:Nat):Int)):=⟨by unfold RowKit.wrap64; omega⟩
                          go_wp2
                          go_loopg [125] n (fun k s125 wr => ∃ (kk:Nat) (v:DSt) (Ps:Prot),s125 = .int .i64 (kk:Int) /\ AsideQ (kk + k = n /\ dN1 i k kk v = dN1 i n 0 u /\ Sq n L' v.1 v.2 w2 P2 wr Ps))
                          case atStart => exact ⟨0,u,Ps,rfl,⟨by omega,rfl,A.out.2.2⟩⟩
                          case round =>
                            obtain ⟨kk,v,Ps,rfl,C⟩:=hrel
                            cases gk with
                            | zero =>
                              have hk:¬ ((kk:Int) < (n:Int)):=by have:=C.out.1; omega
                              have S3:=AsideQ.mk (And.intro (show dN n a (i + 1) v = dN n n 0 t from by have h1:v = dN1 i n 0 u:=C.out.2.1; rw [h1]; exact A.out.2.1) C.out.2.2)
                              go_wp2
                              go_roundg a
                              case measure => omega
                              case rel => exact ⟨i + 1,v,Ps,by first | rfl | rw [IWi.out],⟨by have:=A.out.1; omega,S3.out.1,S3.out.2⟩⟩
                            | succ c =>
                              have hk:(kk:Int) < (n:Int):=by have:=C.out.1; omega
                              have hkN:kk < n:=by omega
                              have IWk:AsideQ (RowKit.wrap64 ((kk:Int) + 1) = ((kk + 1:Nat):Int)):=⟨by unfold RowKit.wrap64; omega⟩
                              have z0:(0:Int) <= (kk:Int):=by omega
                              have z1:(0:Int) <= (i:Int):=by omega
                              obtain ⟨b0,b1⟩:=C.out.2.2.boxes
                              obtain ⟨ti0,ti1⟩:=C.out.2.2.tops hiN
                              obtain ⟨x0,x1⟩:=C.out.2.2.cells hiN hkN
                              obtain ⟨g0,g1⟩:=C.out.2.2.froz hiN kk
                              have YA:=AsideQ.mk C.out.1
                              have hdk:dN1 i c (kk + 1) (if v.2 i kk = false then (upd2 v.1 i kk (-1000),v.2) else v) = dN1 i n 0 u:=C.out.2.1
                              by_cases hm:v.2 i kk = false
                              · rw [if_pos hm] at hdk
                                have Y5:=AsideQ.mk hdk
                                have S6:=AsideQ.mk (Sq.setFar C.out.2.2 hiN kk (-1000))
                                rw [hm] at x1
                                clear hdk
                                go_wp2
                                go_roundg c
                                case measure => omega
                                case rel => exact ⟨kk + 1,(upd2 v.1 i kk (-1000),v.2),Ps,by first | rfl | rw [IWk.out],⟨by have:=YA.out; omega,Y5.out,S6.out⟩⟩
                              · rw [if_neg hm] at hdk
                                have Y5:=AsideQ.mk hdk
                                have hm:v.2 i kk = true:=by simpa using hm
                                rw [hm] at x1
                                clear hdk
                                go_wp2
                                go_roundg c
                                case measure => omega
                                case rel => exact ⟨kk + 1,v,Ps,by first | rfl | rw [IWk.out],⟨by have:=YA.out; omega,Y5.out,C.out.2.2⟩⟩
                    | succ a =>
                      have hj:(j:Int) < (n:Int):=by have:=A.out.1; omega
                      have hjN:j < n:=by omega
                      have IWj:AsideQ (RowKit.wrap64 ((j:Int) + 1) = ((j + 1:Nat):Int)):=⟨by unfold RowKit.wrap64; omega⟩
                      go_wp2
                      go_loopg [75] n (fun k s75 wr => ∃ (i:Nat) (u:DSt) (Ps:Prot),s75 = .int .i64 (i:Int) /\ AsideQ (i + k = n /\ dI n j k i u = dI n j n 0 t /\ Sq n L' u.1 u.2 w2 P2 wr Ps))
                      case atStart => exact ⟨0,t,Ps,rfl,⟨by omega,rfl,A.out.2.2⟩⟩
                      case round =>
                        obtain ⟨i,u,Ps,rfl,B'⟩:=hrel
                        cases gk with
                        | zero =>
                          have hi:¬ ((i:Int) < (n:Int)):=by have:=B'.out.1; omega
                          have S2:=AsideQ.mk (And.intro (show dJ n a (j + 1) u = dJ n n 0 s from by have h1:u = dI n j n 0 t:=B'.out.2.1; rw [h1]; exact A.out.2.1) B'.out.2.2)
                          go_wp2
                          go_roundg a
                          case measure => omega
                          case rel => exact ⟨j + 1,u,Ps,by first | rfl | rw [IWj.out],⟨by have:=A.out.1; omega,S2.out.1,S2.out.2⟩⟩
                        | succ b =>
                          have hi:(i:Int) < (n:Int):=by have:=B'.out.1; omega
                          have hiN:i < n:=by omega
                          have IWi:AsideQ (RowKit.wrap64 ((i:Int) + 1) = ((i + 1:Nat):Int)):=⟨by unfold RowKit.wrap64; omega⟩
                          go_wp2
                          go_loopg [79] n (fun k s79 wr => ∃ (kk:Nat) (v:DSt) (Ps:Prot),s79 = .int .i64 (kk:Int) /\ AsideQ (kk + k = n /\ dK j i k kk v = dK j i n 0 u /\ Sq n L' v.1 v.2 w2 P2 wr Ps))
                          case atStart => exact ⟨0,u,Ps,rfl,⟨by omega,rfl,B'.out.2.2⟩⟩
                          case round =>
                            obtain ⟨kk,v,Ps,rfl,C⟩:=hrel
                            cases gk with
                            | zero =>
                              have hk:¬ ((kk:Int) < (n:Int)):=by have:=C.out.1; omega
                              have S2:=AsideQ.mk (And.intro (show dI n j b (i + 1) v = dI n j n 0 t from by have h1:v = dK j i n 0 u:=C.out.2.1; rw [h1]; exact B'.out.2.1) C.out.2.2)
                              go_wp2
                              go_roundg b
                              case measure => omega
                              case rel => exact ⟨i + 1,v,Ps,by first | rfl | rw [IWi.out],⟨by have:=B'.out.1; omega,S2.out.1,S2.out.2⟩⟩
                            | succ c =>
                              have hk:(kk:Int) < (n:Int):=by have:=C.out.1; omega
                              have hkN:kk < n:=by omega
                              have IWk:AsideQ (RowKit.wrap64 ((kk:Int) + 1) = ((kk + 1:Nat):Int)):=⟨by unfold RowKit.wrap64; omega⟩
                              have z0:(0:Int) <= (kk:Int):=by omega
                              have z1:(0:Int) <= (i:Int):=by omega
                              have z2:(0:Int) <= (j:Int):=by omega
                              obtain ⟨b0,b1⟩:=C.out.2.2.boxes
                              obtain ⟨ti0,ti1⟩:=C.out.2.2.tops hiN
                              obtain ⟨tj0,tj1⟩:=C.out.2.2.tops hjN
                              obtain ⟨x0,x1⟩:=C.out.2.2.cells hiN hjN
                              obtain ⟨y0,y1⟩:=C.out.2.2.cells hjN hkN
                              have YA:=AsideQ.mk C.out.1
                              have hdk:dK j i c (kk + 1) (if v.2 i j = true /\ v.2 j kk = true then addN v i kk (IntKind.i64.wrap (v.1 i j + v.1 j kk)) else v) = dK j i n 0 u:=C.out.2.1
                              have SP:AsideQ (∀ (v':DSt) (w':World) (P':Prot),Sq n L' v'.1 v'.2 w2 P2 w' P' -> (w'.cell? ⟨L' 0,0,none⟩ = some (.slice (some ⟨L' 2,0,none⟩) n n) /\ w'.cell? ⟨L' 1,0,none⟩ = some (.slice (some ⟨L' 3,0,none⟩) n n)) /\ w'.cell? ⟨L' 2,i,none⟩ = some (.slice (some ⟨L' (4 + 2 * i),0,none⟩) n n) /\ w'.cell? ⟨L' 2,j,none⟩ = some (.slice (some ⟨L' (4 + 2 * j),0,none⟩) n n)):=⟨fun v' w' P' h => ⟨h.boxes,(h.tops hiN).1,(h.tops hjN).1⟩⟩
                              by_cases hm1:v.2 i j = true
                              · by_cases hm2:v.2 j kk = true
                                · rw [if_pos ⟨hm1,hm2⟩] at hdk
                                  have Y5:=AsideQ.mk hdk
                                  have HADD:=AsideQ.mk (Tryz.add_ok (MemD.drew C.out.2.2:Sq n L' v.1 v.2 w2 P2 wr.drew Ps) hiN hkN HL.out.2 (IntKind.i64.wrap (v.1 i j + v.1 j kk)))
                                  rw [hm1] at x1
                                  rw [hm2] at y1
                                  clear hdk
                                  go_wp2
                                  have hS0:_:=SP.out _ _ _ (MemD.drew C.out.2.2)
                                  refine wp_region_held_drew (S:=fun w' => (w'.cell? ⟨L' 0,0,none⟩ = some (.slice (some ⟨L' 2,0,none⟩) n n) /\ w'.cell? ⟨L' 1,0,none⟩ = some (.slice (some ⟨L' 3,0,none⟩) n n)) /\ w'.cell? ⟨L' 2,i,none⟩ = some (.slice (some ⟨L' (4 + 2 * i),0,none⟩) n n) /\ w'.cell? ⟨L' 2,j,none⟩ = some (.slice (some ⟨L' (4 + 2 * j),0,none⟩) n n)) (by kernel_rfl) hS0 (fun hHeld => ?_)
                                  refine wpAnyH_take (i:=0) (v:=?_) rfl (by kernel_rfl) (by kernel_rfl) (by kernel_rfl) (fun _ _ _ h => h) (Or.inl ⟨by rfl,?_⟩) hHeld ?_
                                  rotate_left
                                  · intro w hSw; (try dsimp only at hSw); go_simp; try with_reducible rfl
                                  try simp only [Act.put,List.setIfInBounds_toArray,List.set_cons_zero,List.set_cons_succ]
                                  refine wpAnyH_take (i:=1) (v:=?_) rfl (by kernel_rfl) (by kernel_rfl) (by kernel_rfl) (fun _ _ _ h => h) (Or.inl ⟨by rfl,?_⟩) hHeld ?_
                                  rotate_left
                                  · intro w hSw; (try dsimp only at hSw); go_simp; try with_reducible rfl
                                  try simp only [Act.put,List.setIfInBounds_toArray,List.set_cons_zero,List.set_cons_succ]
                                  refine wpAnyH_take (i:=2) (v:=?_) rfl (by kernel_rfl) (by kernel_rfl) (by kernel_rfl) (fun _ _ _ h => h) (Or.inl ⟨by rfl,?_⟩) hHeld ?_
                                  rotate_left
                                  · intro w hSw; (try dsimp only at hSw); go_simp; try with_reducible rfl
                                  try simp only [Act.put,List.setIfInBounds_toArray,List.set_cons_zero,List.set_cons_succ]
                                  refine wpAnyH_take (i:=3) (v:=?_) rfl (by kernel_rfl) (by kernel_rfl) (by kernel_rfl) (fun _ _ _ h => h) (Or.inl ⟨by rfl,?_⟩) hHeld ?_
                                  rotate_left
                                  · intro w hSw; (try dsimp only at hSw); go_simp; try with_reducible rfl
                                  try simp only [Act.put,List.setIfInBounds_toArray,List.set_cons_zero,List.set_cons_succ]
                                  refine wpAnyH_take (i:=4) (v:=?_) rfl (by kernel_rfl) (by kernel_rfl) (by kernel_rfl) (fun _ _ _ h => h) (Or.inl ⟨by rfl,?_⟩) hHeld ?_
                                  rotate_left
                                  · intro w hSw; (try dsimp only at hSw); go_simp; try with_reducible rfl
                                  try simp only [Act.put,List.setIfInBounds_toArray,List.set_cons_zero,List.set_cons_succ]
                                  refine wpAnyH_take (i:=5) (v:=?_) rfl (by kernel_rfl) (by kernel_rfl) (by kernel_rfl) (fun _ _ _ h => h) (Or.inl ⟨by rfl,?_⟩) hHeld ?_
                                  rotate_left
                                  · intro w hSw; (try dsimp only at hSw); go_simp; try with_reducible rfl
                                  try simp only [Act.put,List.setIfInBounds_toArray,List.set_cons_zero,List.set_cons_succ]
                                  refine wpAnyH_take (i:=6) (v:=?_) rfl (by kernel_rfl) (by kernel_rfl) (by kernel_rfl) (fun _ _ _ h => h) (Or.inl ⟨by rfl,?_⟩) hHeld ?_
                                  rotate_left
                                  · intro w hSw; (try dsimp only at hSw); go_simp; try with_reducible rfl
                                  try simp only [Act.put,List.setIfInBounds_toArray,List.set_cons_zero,List.set_cons_succ]
                                  refine wpAnyH_take (i:=7) (v:=?_) rfl (by kernel_rfl) (by kernel_rfl) (by kernel_rfl) (fun _ _ _ h => h) (Or.inl ⟨by rfl,?_⟩) hHeld ?_
                                  rotate_left
                                  · intro w hSw; (try dsimp only at hSw); go_simp; try with_reducible rfl
                                  try simp only [Act.put,List.setIfInBounds_toArray,List.set_cons_zero,List.set_cons_succ]
                                  refine wpAnyH_take (i:=8) (v:=?_) rfl (by kernel_rfl) (by kernel_rfl) (by kernel_rfl) (fun _ _ _ h => h) (Or.inl ⟨by rfl,?_⟩) hHeld ?_
                                  rotate_left
                                  · intro w hSw; (try dsimp only at hSw); go_simp; try with_reducible rfl
                                  try simp only [Act.put,List.setIfInBounds_toArray,List.set_cons_zero,List.set_cons_succ]
                                  refine wpAnyH_take (i:=10) (v:=?_) rfl (by kernel_rfl) (by kernel_rfl) (by kernel_rfl) (fun _ _ _ h => h) (Or.inl ⟨by rfl,?_⟩) hHeld ?_
                                  rotate_left
                                  · intro w hSw; (try dsimp only at hSw); go_simp; try with_reducible rfl
                                  try simp only [Act.put,List.setIfInBounds_toArray,List.set_cons_zero,List.set_cons_succ]
                                  refine wpAnyH_take (i:=11) (v:=?_) rfl (by kernel_rfl) (by kernel_rfl) (by kernel_rfl) (fun _ _ _ h => h) (Or.inl ⟨by rfl,?_⟩) hHeld ?_
                                  rotate_left
                                  · intro w hSw; (try dsimp only at hSw); go_simp; try with_reducible rfl
                                  try simp only [Act.put,List.setIfInBounds_toArray,List.set_cons_zero,List.set_cons_succ]
                                  refine wpAnyH_take (i:=12) (v:=?_) rfl (by kernel_rfl) (by kernel_rfl) (by kernel_rfl) (fun _ _ _ h => h) (Or.inl ⟨by rfl,?_⟩) hHeld ?_
                                  rotate_left
                                  · intro w hSw; (try dsimp only at hSw); go_simp; try with_reducible rfl
                                  try simp only [Act.put,List.setIfInBounds_toArray,List.set_cons_zero,List.set_cons_succ]
                                  refine wpAnyH_take (i:=13) (v:=?_) rfl (by kernel_rfl) (by kernel_rfl) (by kernel_rfl) (fun _ _ _ h => h) (Or.inl ⟨by rfl,?_⟩) hHeld ?_
                                  rotate_left
                                  · intro w hSw; (try dsimp only at hSw); go_simp; try with_reducible rfl
                                  try simp only [Act.put,List.setIfInBounds_toArray,List.set_cons_zero,List.set_cons_succ]
                                  refine wpAnyH_take (i:=14) (v:=?_) rfl (by kernel_rfl) (by kernel_rfl) (by kernel_rfl) (fun _ _ _ h => h) (Or.inl ⟨by rfl,?_⟩) hHeld ?_
                                  rotate_left
                                  · intro w hSw; (try dsimp only at hSw); go_simp; try with_reducible rfl
                                  try simp only [Act.put,List.setIfInBounds_toArray,List.set_cons_zero,List.set_cons_succ]
                                  refine wpAnyH_take (i:=15) (v:=?_) rfl (by kernel_rfl) (by kernel_rfl) (by kernel_rfl) (fun _ _ _ h => h) (Or.inl ⟨by rfl,?_⟩) hHeld ?_
                                  rotate_left
                                  · intro w hSw; (try dsimp only at hSw); go_simp; try with_reducible rfl
                                  try simp only [Act.put,List.setIfInBounds_toArray,List.set_cons_zero,List.set_cons_succ]
                                  refine wpAnyH_ready (rs:=[9,16]) (by kernel_rfl) (by simp) ?_
                                  refine AllReadyH.cons rfl (fun K hK => ?_) (AllReadyH.cons rfl (fun K hK => ?_) AllReadyH.nil)
                                  · go_simp
                                    refine hK.out _ _ hS0 (fun hHeld => ?_)
                                    clear hK K
                                    try simp only [Act.put,List.setIfInBounds_toArray,List.set_cons_zero,List.set_cons_succ]
                                    refine wpAnyH_ready (rs:=[16]) (by kernel_rfl) (by simp) ?_
                                    refine AllReadyH.cons rfl (fun K hK => ?_) AllReadyH.nil
                                    go_simp
                                    refine hK.out _ _ hS0 (fun hHeld => ?_)
                                    clear hK K
                                    try simp only [Act.put,List.setIfInBounds_toArray,List.set_cons_zero,List.set_cons_succ]
                                    refine wpAnyH_take (i:=17) (v:=?_) rfl (by kernel_rfl) (by kernel_rfl) (by kernel_rfl) (fun _ _ _ h => h) (Or.inl ⟨by rfl,?_⟩) hHeld ?_
                                    rotate_left
                                    · intro w hSw; (try dsimp only at hSw); go_simp; try with_reducible rfl
                                    try simp only [Act.put,List.setIfInBounds_toArray,List.set_cons_zero,List.set_cons_succ]
                                    refine wpAnyH_ready (rs:=[18]) (by kernel_rfl) (by simp) ?_
                                    refine AllReadyH.cons rfl (fun K hK => ?_) AllReadyH.nil
                                    go_simp
                                    refine HADD.out.mono ?_
                                    rintro e w6 ⟨rfl,hs6,-⟩
                                    refine hK.out _ _ (SP.out _ _ _ hs6) (fun hHeld => ?_)
                                    clear hK K
                                    try simp only [Act.put,List.setIfInBounds_toArray,List.set_cons_zero,List.set_cons_succ]
                                    refine wpAnyH_done (by kernel_rfl) ?_ _
                                    have S6:=AsideQ.mk hs6
                                    clear hs6 hHeld
                                    go_wp2
                                    go_roundg c
                                    case measure => omega
                                    case rel => exact ⟨kk + 1,_,Ps,by first | rfl | rw [IWk.out],⟨by have:=YA.out; omega,Y5.out,S6.out⟩⟩
                                  · go_simp
                                    refine hK.out _ _ hS0 (fun hHeld => ?_)
                                    clear hK K
                                    try simp only [Act.put,List.setIfInBounds_toArray,List.set_cons_zero,List.set_cons_succ]
                                    refine wpAnyH_ready (rs:=[9]) (by kernel_rfl) (by simp) ?_
                                    refine AllReadyH.cons rfl (fun K hK => ?_) AllReadyH.nil
                                    go_simp
                                    refine hK.out _ _ hS0 (fun hHeld => ?_)
                                    clear hK K
                                    try simp only [Act.put,List.setIfInBounds_toArray,List.set_cons_zero,List.set_cons_succ]
                                    refine wpAnyH_take (i:=17) (v:=?_) rfl (by kernel_rfl) (by kernel_rfl) (by kernel_rfl) (fun _ _ _ h => h) (Or.inl ⟨by rfl,?_⟩) hHeld ?_
                                    rotate_left
                                    · intro w hSw; (try dsimp only at hSw); go_simp; try with_reducible rfl
                                    try simp only [Act.put,List.setIfInBounds_toArray,List.set_cons_zero,List.set_cons_succ]
                                    refine wpAnyH_ready (rs:=[18]) (by kernel_rfl) (by simp) ?_
                                    refine AllReadyH.cons rfl (fun K hK => ?_) AllReadyH.nil
                                    go_simp
                                    refine HADD.out.mono ?_
                                    rintro e w6 ⟨rfl,hs6,-⟩
                                    refine hK.out _ _ (SP.out _ _ _ hs6) (fun hHeld => ?_)
                                    clear hK K
                                    try simp only [Act.put,List.setIfInBounds_toArray,List.set_cons_zero,List.set_cons_succ]
                                    refine wpAnyH_done (by kernel_rfl) ?_ _
                                    have S6:=AsideQ.mk hs6
                                    clear hs6 hHeld
                                    go_wp2
                                    go_roundg c
                                    case measure => omega
                                    case rel => exact ⟨kk + 1,_,Ps,by first | rfl | rw [IWk.out],⟨by have:=YA.out; omega,Y5.out,S6.out⟩⟩
                                · rw [if_neg (fun h => hm2 h.2)] at hdk
                                  have Y5:=AsideQ.mk hdk
                                  have hm2:v.2 j kk = false:=by simpa using hm2
                                  rw [hm1] at x1
                                  rw [hm2] at y1
                                  clear hdk
                                  go_wp2
                                  go_roundg c
                                  case measure => omega
                                  case rel => exact ⟨kk + 1,v,Ps,by first | rfl | rw [IWk.out],⟨by have:=YA.out; omega,Y5.out,C.out.2.2⟩⟩
                              · rw [if_neg (fun h => hm1 h.1)] at hdk
                                have Y5:=AsideQ.mk hdk
                                have hm1:v.2 i j = false:=by simpa using hm1
                                rw [hm1] at x1
                                clear hdk
                                go_wp2
                                go_roundg c
                                case measure => omega
                                case rel => exact ⟨kk + 1,v,Ps,by first | rfl | rw [IWk.out],⟨by have:=YA.out; omega,Y5.out,C.out.2.2⟩⟩
                | succ k =>
                  have hj:j < (lnks p).length:=by have:=Z.out.1; omega
                  obtain ⟨bk,ok,rfl,-,-,⟨e0,e1,e2,e3⟩,pp⟩:=XL.out (j:Int) (lnks p)[j] (getI_lt hj)
                  simp only [Int.toNat_natCast] at e0 e1 e2 e3 pp
                  have hdr:(lnks p).drop j = (lnks p)[j] :: (lnks p).drop (j + 1):=List.drop_eq_getElem_cons hj
                  have hpw:=R2.out.1.trans0 Z.out.2.2.ext
                  have hold:∀ (o:Nat) (v:Value),w.cell? ⟨bk,o,none⟩ = some v -> wr.cell? ⟨bk,o,none⟩ = some v:=fun o v hc => by
                    rw [World.cell?_of_block (hpw.block _ (World.block_lt_of_cell? w ⟨bk,o,none⟩ hc) (by simp))]; exact hc
                  replace e0:=hold _ _ e0
                  replace e1:=hold _ _ e1
                  replace e2:=hold _ _ e2
                  replace e3:=hold _ _ e3
                  have hyc:=Z.out.2.1
                  rw [hdr] at hyc
                  have hjI:(j:Int) < ((lnks p).length:Int):=by omega
                  have hj0:(0:Int) <= (j:Int):=by omega
                  clear hold hdr pp
                  generalize hz:(lnks p)[j] = z at *
                  obtain ⟨z1,z2,z3,z4,uz⟩:=z
                  clear hz
                  obtain ⟨g,hfg,hyc2⟩:=Option.bind_eq_some_iff.1 (show Option.bind _ _ = some s0 from hyc)
                  by_cases hzz:(0 <= z1 /\ z1 < (n:Int)) /\ 0 <= z2 /\ z2 < (n:Int)
                  · replace hyc2:(if (0 <= z1 /\ z1 < (n:Int)) /\ 0 <= z2 /\ z2 < (n:Int) then dL _ n _ (addN s z1.toNat z2.toNat g) else none) = some s0:=hyc2
                    rw [if_pos hzz] at hyc2
                    obtain ⟨⟨zz1,zz2⟩,zz3,zz4⟩:=hzz
                    obtain ⟨jf,rfl⟩:∃ jf:Nat,z1 = (jf:Int):=⟨z1.toNat,by omega⟩
                    obtain ⟨jt,rfl⟩:∃ jt:Nat,z2 = (jt:Int):=⟨z2.toNat,by omega⟩
                    simp only [Int.toNat_natCast] at hyc2
                    have hf:jf < n:=by omega
                    have htt:jt < n:=by omega
                    have FX:=AsideQ.mk hfg
                    have Y5:=AsideQ.mk hyc2
                    clear hyc hyc2 hfg zz1 zz2 zz3 zz4
                    obtain ⟨c50,c51,c52,c53,c54⟩:=five_at (BX.out _ _ Z.out.2.2.ext)
                    have hl5:w.heap.size < wr.heap.size:=World.block_lt_of_cell? wr ⟨w.heap.size,0,none⟩ c50
                    have IW:AsideQ (RowKit.wrap64 ((j:Int) + 1) = ((j + 1:Nat):Int)):=⟨by have:=HL.out; unfold RowKit.wrap64; omega⟩
                    have HAl:AsideQ (PExt [] wr Ps (wr.alloc (.cells #[.int .i64 (jf:Int),.int .i64 (jt:Int),.bool z3,.int .i64 z4] 63)) Ps):=⟨pext_al (PExt.refl Z.out.2.2.ext.there) _⟩
                    have hL2:∀ a,a < 4 + 2 * n -> L' a ≠ wr.heap.size:=fun a ha => Nat.ne_of_lt (MemD.lt Z.out.2.2 ha)
                    have SL:=AsideQ.mk hL2
                    have YA:=AsideQ.mk Z.out.1
                    go_wp2
                    have hp0:=hpw.trans0 HAl.out
                    have hnew:(wr.alloc (.cells #[.int .i64 (jf:Int),.int .i64 (jt:Int),.bool z3,.int .i64 z4] 63)).heap[wr.heap.size]? = some (.cells #[.int .i64 (jf:Int),.int .i64 (jt:Int),.bool z3,.int .i64 z4] 63 (0,0)):=heap_alloc_new _ _
                    have hsq:Sq n L' s.1 s.2 w2 P2 (wr.alloc (.cells #[.int .i64 (jf:Int),.int .i64 (jt:Int),.bool z3,.int .i64 z4] 63)) Ps:=Sq.later Z.out.2.2 HAl.out
                    generalize wr.alloc (.cells #[.int .i64 (jf:Int),.int .i64 (jt:Int),.bool z3,.int .i64 z4] 63) = W0 at *
                    have HW:AsideQ (BaseOk Tryz.prog B W0 Ps /\ RepV Tryz.prog prjT W0 Ps .p p (.agg #[.int .i64 n0,.slice a1 n c1,.slice (some ⟨bk,ok,none⟩) (lnks p).length c2,.slice a3 n3 c3,.slice a4 n4 c4]) []):=⟨X.out.1.later hp0.later,keep_p X.out.2.2 hp0.later⟩
                    have p0:PExt [] W0 Ps W0 Ps:=PExt.refl HAl.out.there
                    have hnl:wr.heap.size < W0.heap.size:=(Array.getElem?_eq_some_iff.1 hnew).1
                    obtain ⟨f0,f1,f2,f3⟩:=four_at hnew
                    have hSK:∀ (w':World),w'.heap[w.heap.size]? = wr.heap[w.heap.size]? -> w'.heap[wr.heap.size]? = W0.heap[wr.heap.size]? -> (w'.cell? ⟨w.heap.size,0,none⟩ = some (.int .i64 n0) /\ w'.cell? ⟨w.heap.size,1,none⟩ = some (.slice a1 n c1) /\ w'.cell? ⟨w.heap.size,2,none⟩ = some (.slice (some ⟨bk,ok,none⟩) (lnks p).length c2) /\ w'.cell? ⟨w.heap.size,3,none⟩ = some (.slice a3 n3 c3) /\ w'.cell? ⟨w.heap.size,4,none⟩ = some (.slice a4 n4 c4)) /\ (w'.cell? ⟨wr.heap.size,0,none⟩ = some (.int .i64 (jf:Int)) /\ w'.cell? ⟨wr.heap.size,1,none⟩ = some (.int .i64 (jt:Int)) /\ w'.cell? ⟨wr.heap.size,2,none⟩ = some (.bool z3) /\ w'.cell? ⟨wr.heap.size,3,none⟩ = some (.int .i64 z4)):=fun w' h1 h2 => by
                      have k1:∀ (o:Nat),w'.cell? ⟨w.heap.size,o,none⟩ = wr.cell? ⟨w.heap.size,o,none⟩:=fun o => World.cell?_of_block h1
                      have k2:∀ (o:Nat),w'.cell? ⟨wr.heap.size,o,none⟩ = W0.cell? ⟨wr.heap.size,o,none⟩:=fun o => World.cell?_of_block h2
                      exact ⟨⟨(k1 _).trans c50,(k1 _).trans c51,(k1 _).trans c52,(k1 _).trans c53,(k1 _).trans c54⟩,(k2 _).trans f0,(k2 _).trans f1,(k2 _).trans f2,(k2 _).trans f3⟩
                    have hb0:W0.heap[w.heap.size]? = wr.heap[w.heap.size]?:=HAl.out.block _ hl5 (by simp)
                    have SK:=AsideQ.mk hSK
                    have S0:=hSK W0.drew hb0 rfl
                    have SP:AsideQ (∀ (w':World) (P':Prot),PExt [] W0 Ps w' P' -> (w'.cell? ⟨w.heap.size,0,none⟩ = some (.int .i64 n0) /\ w'.cell? ⟨w.heap.size,1,none⟩ = some (.slice a1 n c1) /\ w'.cell? ⟨w.heap.size,2,none⟩ = some (.slice (some ⟨bk,ok,none⟩) (lnks p).length c2) /\ w'.cell? ⟨w.heap.size,3,none⟩ = some (.slice a3 n3 c3) /\ w'.cell? ⟨w.heap.size,4,none⟩ = some (.slice a4 n4 c4)) /\ (w'.cell? ⟨wr.heap.size,0,none⟩ = some (.int .i64 (jf:Int)) /\ w'.cell? ⟨wr.heap.size,1,none⟩ = some (.int .i64 (jt:Int)) /\ w'.cell? ⟨wr.heap.size,2,none⟩ = some (.bool z3) /\ w'.cell? ⟨wr.heap.size,3,none⟩ = some (.int .i64 z4))):=⟨fun w' P' hp => hSK w' ((hp.block _ (Nat.lt_trans hl5 hnl) (by simp)).trans hb0) (hp.block _ hnl (by simp))⟩
                    have SB:=AsideQ.mk (And.intro hb0 (And.intro hnl hl5))
                    have HSQ:=AsideQ.mk hsq
                    clear hSK hp0 hnew c50 c51 c52 c53 c54 f0 f1 f2 f3 e0 e1 e2 e3 hL2 hsq
                    have QG:=AsideQ.mk (gap_c SG.out.2 HW.out.1 HW.out.2 (fun w P => lnk_rep (u:=uz)) FX.out)
                    go_region_held3 (fun w' => (w'.cell? ⟨w.heap.size,0,none⟩ = some (.int .i64 n0) /\ w'.cell? ⟨w.heap.size,1,none⟩ = some (.slice a1 n c1) /\ w'.cell? ⟨w.heap.size,2,none⟩ = some (.slice (some ⟨bk,ok,none⟩) (lnks p).length c2) /\ w'.cell? ⟨w.heap.size,3,none⟩ = some (.slice a3 n3 c3) /\ w'.cell? ⟨w.heap.size,4,none⟩ = some (.slice a4 n4 c4)) /\ (w'.cell? ⟨wr.heap.size,0,none⟩ = some (.int .i64 (jf:Int)) /\ w'.cell? ⟨wr.heap.size,1,none⟩ = some (.int .i64 (jt:Int)) /\ w'.cell? ⟨wr.heap.size,2,none⟩ = some (.bool z3) /\ w'.cell? ⟨wr.heap.size,3,none⟩ = some (.int .i64 z4)))
                      (first | exact S0 | exact SP.out _ _ p5 | exact SK.out _ kb6 kc6 | fail)
                      (first
                        | (with_reducible refine (QG.out _ _ (pext_dr p0)).mono ?_
                           rintro e w5 ⟨P5,rfl,p5,l5,s5,kk5⟩)
                        | (with_reducible refine (Tryz.add_ok (Sq.later HSQ.out p5) hf htt HL.out.2 g).mono ?_
                           rintro e w6 ⟨rfl,hs6,kk6⟩
                           have kb6:w6.heap[w.heap.size]? = wr.heap[w.heap.size]?:=(kk6 _ (Nat.ne_of_lt (Nat.lt_of_lt_of_le (Array.getElem?_eq_some_iff.1 R2.out.2).1 (HSQ.out.ge _ (by omega)))) (Nat.ne_of_lt (Nat.lt_of_lt_of_le (Array.getElem?_eq_some_iff.1 R2.out.2).1 (HSQ.out.ge _ (by omega))))).trans ((p5.block _ (Nat.lt_trans SB.out.2.2 SB.out.2.1) (by simp)).trans SB.out.1)
                           have kc6:w6.heap[wr.heap.size]? = W0.heap[wr.heap.size]?:=(kk6 _ (Ne.symm (SL.out _ (by omega))) (Ne.symm (SL.out _ (by omega)))).trans (p5.block _ SB.out.2.1 (by simp)))
                        | fail)
                    have S6:=AsideQ.mk hs6
                    clear p5 l5 s5 kk5 hs6 kk6 kb6 kc6 p0
                    go_wp2
                    go_roundg k
                    case measure => omega
                    case rel => exact ⟨j + 1,addN s jf jt g,P5,by first | rfl | rw [IW.out],⟨by have:=YA.out; omega,Y5.out,S6.out⟩⟩
                  · replace hyc2:(if (0 <= z1 /\ z1 < (n:Int)) /\ 0 <= z2 /\ z2 < (n:Int) then dL _ n _ (addN s z1.toNat z2.toNat g) else none) = some s0:=hyc2
                    rw [if_neg hzz] at hyc2
                    cases hyc2
            | succ k =>
              have hi:i < n:=by have:=Y.out.1; omega
              have hiI:(i:Int) < (n:Int):=by omega
              have hi0:(0:Int) <= (i:Int):=by omega
              obtain ⟨b0,b1⟩:=Y.out.2.boxes
              obtain ⟨t0,t1,g0,g1⟩:=Y.out.2.tops hi
              have n02:L' 2 ≠ L' 0:=fun e => by have:=Y.out.2.inj 2 0 (by omega) (by omega) e; omega
              have n12:L' 2 ≠ L' 1:=fun e => by have:=Y.out.2.inj 2 1 (by omega) (by omega) e; omega
              have n03:L' 3 ≠ L' 0:=fun e => by have:=Y.out.2.inj 3 0 (by omega) (by omega) e; omega
              have n13:L' 3 ≠ L' 1:=fun e => by have:=Y.out.2.inj 3 1 (by omega) (by omega) e; omega
              have n23:L' 3 ≠ L' 2:=fun e => by have:=Y.out.2.inj 3 2 (by omega) (by omega) e; omega
              obtain ⟨q1,q2,q3,q4⟩:=W1 Y.out.2 hi n23
              have m0:=World.new_ne wr _ b0
              have m1:=World.new_ne wr _ b1
              have m2:=World.new_ne wr _ t0
              have m3:=World.new_ne wr _ t1
              rw [<- hL0,<- hL1]
              have HLL:=AsideQ.mk (And.intro hL0 hL1)
              clear hL0 hL1 SH
              have IW:AsideQ (RowKit.wrap64 ((i:Int) + 1) = ((i + 1:Nat):Int)):=⟨by unfold RowKit.wrap64; omega⟩
              have hk26:=fun w:World => Tryz.mk26 w n HL.out.2
              have hk45:=fun w:World => Tryz.mk45 w n HL.out.2
              go_wp2
              go_region_held3 (fun w' => w'.cell? ⟨L' 0,0,none⟩ = some (.slice (some ⟨L' 2,0,none⟩) n n) /\ w'.cell? ⟨L' 1,0,none⟩ = some (.slice (some ⟨L' 3,0,none⟩) n n)) (go_keep) (fail)
              all_goals clear q1 q2 q3 q4 m0 m1 m2 m3 b0 b1 t0 t1 g0 g1 n02 n12 n03 n13 n23 hk26 hk45
              · have HM:=rows_a Y.out.2
                generalize ((((wr.alloc (.cells (Array.replicate n (.int .i64 0)) 3)).alloc (.cells (Array.replicate n (.bool false)) 4)).setCell ⟨L' 2,i,none⟩ (.slice (some ⟨wr.heap.size,0,none⟩) n n)).setCell ⟨L' 3,i,none⟩ (.slice (some ⟨wr.heap.size + 1,0,none⟩) n n)).drew = W at *
                have q0:rowL L' i wr.heap.size (wr.heap.size + 1) 0 = L 0:=(show _ = L' 0 by unfold rowL; rw [if_neg (by omega),if_neg (by omega)]).trans HLL.out.1
                have q1:rowL L' i wr.heap.size (wr.heap.size + 1) 1 = L 1:=(show _ = L' 1 by unfold rowL; rw [if_neg (by omega),if_neg (by omega)]).trans HLL.out.2
                rw [HLL.out.1,HLL.out.2]
                generalize rowL L' i wr.heap.size (wr.heap.size + 1) = LL at *
                obtain ⟨e1,e3,e5,g5⟩:=Qy HM hi
                rw [q1] at e1
                have SD:=AsideQ.mk (Rp HM)
                have QQ:=AsideQ.mk (And.intro q0 q1)
                clear HM q0 q1
                go_wp2
                go_roundg k
                case measure => omega
                case rel => exact ⟨i + 1,LL,Pr,by first | rfl | rw [IW.out],QQ.out.1,QQ.out.2,⟨by have:=Y.out.1; omega,SD.out⟩⟩
              · have HM:=rows_b Y.out.2
                generalize ((((wr.alloc (.cells (Array.replicate n (.int .i64 0)) 3)).setCell ⟨L' 2,i,none⟩ (.slice (some ⟨wr.heap.size,0,none⟩) n n)).alloc (.cells (Array.replicate n (.bool false)) 4)).setCell ⟨L' 3,i,none⟩ (.slice (some ⟨wr.heap.size + 1,0,none⟩) n n)).drew = W at *
                have q0:rowL L' i wr.heap.size (wr.heap.size + 1) 0 = L 0:=(show _ = L' 0 by unfold rowL; rw [if_neg (by omega),if_neg (by omega)]).trans HLL.out.1
                have q1:rowL L' i wr.heap.size (wr.heap.size + 1) 1 = L 1:=(show _ = L' 1 by unfold rowL; rw [if_neg (by omega),if_neg (by omega)]).trans HLL.out.2
                rw [HLL.out.1,HLL.out.2]
                generalize rowL L' i wr.heap.size (wr.heap.size + 1) = LL at *
                obtain ⟨e1,e3,e5,g5⟩:=Qy HM hi
                rw [q1] at e1
                have SD:=AsideQ.mk (Rp HM)
                have QQ:=AsideQ.mk (And.intro q0 q1)
                clear HM q0 q1
                go_wp2
                go_roundg k
                case measure => omega
                case rel => exact ⟨i + 1,LL,Pr,by first | rfl | rw [IW.out],QQ.out.1,QQ.out.2,⟨by have:=Y.out.1; omega,SD.out⟩⟩
              · have HM:=rows_c Y.out.2
                generalize ((((wr.alloc (.cells (Array.replicate n (.bool false)) 4)).alloc (.cells (Array.replicate n (.int .i64 0)) 3)).setCell ⟨L' 2,i,none⟩ (.slice (some ⟨wr.heap.size + 1,0,none⟩) n n)).setCell ⟨L' 3,i,none⟩ (.slice (some ⟨wr.heap.size,0,none⟩) n n)).drew = W at *
                have q0:rowL L' i (wr.heap.size + 1) wr.heap.size 0 = L 0:=(show _ = L' 0 by unfold rowL; rw [if_neg (by omega),if_neg (by omega)]).trans HLL.out.1
                have q1:rowL L' i (wr.heap.size + 1) wr.heap.size 1 = L 1:=(show _ = L' 1 by unfold rowL; rw [if_neg (by omega),if_neg (by omega)]).trans HLL.out.2
                rw [HLL.out.1,HLL.out.2]
                generalize rowL L' i (wr.heap.size + 1) wr.heap.size = LL at *
                obtain ⟨e1,e3,e5,g5⟩:=Qy HM hi
                rw [q1] at e1
                have SD:=AsideQ.mk (Rp HM)
                have QQ:=AsideQ.mk (And.intro q0 q1)
                clear HM q0 q1
                go_wp2
                go_roundg k
                case measure => omega
                case rel => exact ⟨i + 1,LL,Pr,by first | rfl | rw [IW.out],QQ.out.1,QQ.out.2,⟨by have:=Y.out.1; omega,SD.out⟩⟩
        obtain ⟨main⟩:=main0
        clear hK
        go_region_held3 (fun _ => True) (trivial) (fail)
        all_goals
          generalize hz:w2.heap.size = z
          refine main (lab4 _ _ _ _) _ ?_
          refine Sp.start (z:=z) (PExt.refl R2.out.1.there) hz (pext_dr (pext_al (pext_al (pext_al (pext_al (PExt.refl R2.out.1.there) _) _) _) _)) (by omega) (by omega) (by omega) (by omega) (by omega) ?_ ?_ ?_ ?_
          · first | exact (four_al hz).1 | exact (four_al hz).2.1 | exact (four_al hz).2.2.1 | exact (four_al hz).2.2.2
          · first | exact (four_al hz).1 | exact (four_al hz).2.1 | exact (four_al hz).2.2.1 | exact (four_al hz).2.2.2
          · first | exact (four_al hz).1 | exact (four_al hz).2.1 | exact (four_al hz).2.2.1 | exact (four_al hz).2.2.2
          · first | exact (four_al hz).1 | exact (four_al hz).2.1 | exact (four_al hz).2.2.1 | exact (four_al hz).2.2.2
    · have hlen:(0:Int) < (List.length (α:=Int) c:Int):=by
        have:List.length (α:=Int) c ≠ 0:=fun h => hc (List.length_eq_zero_iff.1 h)
        omega
      go_wp2
      go_ret
      have hy:=HY.out
      rw [if_neg hc] at hy
      have hy:=Option.some.inj hy
      subst hy
      have hz:RepV Tryz.prog (.sl 26 ilT) w2 P2 .p ([]:List (List Int)) (.slice none 0 0) []:=by simp only [RepV]; exact ⟨rfl,.inl ⟨rfl,none,rfl⟩⟩
      first | exact ⟨_,P2,[],[],rfl,R2.out.1,hz,rfl,by simp,by simp⟩ | exact ⟨_,rfl,P2,R2.out.1,[],hz,[],rfl,by simp,by simp⟩
end
section
set_option linter.unusedVariables false
set_option linter.unusedSimpArgs false
open Go.RowKit Go.Abs
/-- the greatest of three numbers and 1 -/
def lbF (FO:Ty.dens [prjT] -> Unit -> Option (Bool × Unit)) (F1 F2 F3:Ty.dens [prjT] -> Unit -> Option (Int × Unit)):Ty.dens [prjT] -> Unit -> Option (Int × Unit):=fun x _ =>
  ((FO (x.1,()) ()).map (·.1)).bind fun ok => if ok = true then ((F1 (x.1,()) ()).map (·.1)).bind fun a => ((F2 (x.1,()) ()).map (·.1)).bind fun b => ((F3 (x.1,()) ()).map (·.1)).bind fun c => some (maxI (maxI (maxI a b) c) 1,())
    else some (0,())
theorem int_c {B:Base} {M:Program} {f:FuncId} {F:Ty.dens [prjT] -> Unit -> Option (Int × Unit)} (hs:SigB B M f ⟨[prjT],[],none,.p,.int .i64,.p,F⟩) {wa:World} {Pa:Prot} (hb:BaseOk M B wa Pa) {p:Prj} {v:Value} (hr:RepV M prjT wa Pa .p p v []) {g:Int} (hy:(F (p,()) ()).map (·.1) = some g) :
    ∀ wc Pc,PExt [] wa Pa wc Pc -> Calls M f #[v] wc fun e w' => ∃ P',e = .returned (.int .i64 g) /\ PExt [] wa Pa w' P':=fun wc Pc hp => by
  refine (Im hs rfl (hb.later hp.later) hp.there (xs:=(p,())) (vs:=[v]) (y:=g) (by
    simp only [RepVs,Md.hd,Md.tl]
    exact ⟨_,_,[],[],rfl,rfl,keep_p hr hp.later,rfl,rfl⟩) hy).mono ?_
  rintro e w' ⟨u,P1,rfl,h1,hrep⟩
  simp only [RepV] at hrep
  obtain ⟨rfl,-⟩:=hrep
  exact ⟨P1,rfl,hp.trans0 h1⟩
theorem max4 {M:Program} (w:World) (ts:Array TypeId) (t:TypeId) (a b c d:Int):(Builtin.max_ ts t #[.int .i64 a,.int .i64 b,.int .i64 c,.int .i64 d]).run M w = .ok (.int .i64 (maxI (maxI (maxI a b) c) d)) w:=by
  simp [Builtin.max_,Builtin.max2,maxI]
set_option maxRecDepth 100000 in
set_option maxHeartbeats 4000000 in
theorem Tryz.lb_ok {B:Base} {FO:Ty.dens [prjT] -> Unit -> Option (Bool × Unit)} {F1 F2 F3:Ty.dens [prjT] -> Unit -> Option (Int × Unit)}
    (hO:SigB B Tryz.prog 27 ⟨[prjT],[],none,.p,.bool,.p,FO⟩) (h1:SigB B Tryz.prog 13 ⟨[prjT],[],none,.p,.int .i64,.p,F1⟩) (h2:SigB B Tryz.prog 42 ⟨[prjT],[],none,.p,.int .i64,.p,F2⟩) (h3:SigB B Tryz.prog 43 ⟨[prjT],[],none,.p,.int .i64,.p,F3⟩) :
    SigB B Tryz.prog 14 ⟨[prjT],[],none,.p,.int .i64,.p,lbF FO F1 F2 F3⟩:=by
  refine ⟨⟨Tryz.f14,Tryz.func14,by decide,rfl⟩,fun w P xs ys vs caps Ti y hb ht hv hTi hTp hcap hy => ?_⟩
  obtain ⟨p,u⟩:=xs
  change Prj at p
  cases u
  change Int × Unit at y
  replace hv:ArgsR Tryz.prog w P .p none [prjT] (p,()) vs Ti:=hv
  replace hcap:caps = []:=hcap
  replace hy:lbF FO F1 F2 F3 (p,()) ys = some y:=hy
  simp only [ArgsR] at hv
  obtain ⟨v0,r,rfl,h0,rfl,rfl⟩:=hv
  subst hcap
  obtain ⟨n0,a1,c1,a2,c2,a3,n3,c3,a4,n4,c4,rfl,-⟩:=prj_at2 h0
  unfold lbF at hy
  obtain ⟨ok,hFO,hy⟩:=Option.bind_eq_some_iff.1 hy
  have hp1:=pext_al (PExt.refl ht) (.cells #[.int .i64 n0,.slice a1 (List.length p.2.1) c1,.slice a2 (lnks p).length c2,.slice a3 n3 c3,.slice a4 n4 c4] 28)
  have hcall:=Im hO rfl (hb.later hp1.later) hp1.there (xs:=(p,())) (vs:=[.agg #[.int .i64 n0,.slice a1 (List.length p.2.1) c1,.slice a2 (lnks p).length c2,.slice a3 n3 c3,.slice a4 n4 c4]]) (y:=ok) (by
    simp only [RepVs,Md.hd,Md.tl]
    exact ⟨_,_,[],[],rfl,rfl,keep_p h0 hp1.later,rfl,rfl⟩) hFO
  have X:=AsideQ.mk (And.intro hb (And.intro ht h0))
  have XY:=AsideQ.mk hy
  have SG:=AsideQ.mk (And.intro h1 (And.intro h2 h3))
  have HA:=AsideQ.mk (And.intro hp1 (heap_alloc_new w (.cells #[.int .i64 n0,.slice a1 (List.length p.2.1) c1,.slice a2 (lnks p).length c2,.slice a3 n3 c3,.slice a4 n4 c4] 28)))
  clear hb ht h0 hy hO h1 h2 h3 hFO hp1 hTi hTp
  go_enter Tryz.func14,Tryz.ntmps14
  go_wp2_with fail
  refine hcall.mono ?_
  rintro e w1 ⟨u,P1,rfl,hp2,hr2⟩
  simp only [RepV] at hr2
  obtain ⟨rfl,-⟩:=hr2
  clear hcall
  have R1:=AsideQ.mk (And.intro (HA.out.1.trans0 hp2) (show w1.heap[w.heap.size]? = _ from (hp2.block _ (Array.getElem?_eq_some_iff.1 HA.out.2).1 (by simp)).trans HA.out.2))
  clear HA hp2
  cases ok with
  | false =>
    go_wp2
    go_ret
    have hy:=Option.some.inj (show some ((0:Int),()) = some y from XY.out)
    subst hy
    first | exact ⟨_,P1,[],[],rfl,R1.out.1,by simp [RepV],rfl,by simp,by simp⟩ | exact ⟨_,rfl,P1,R1.out.1,[],by simp [RepV],[],rfl,by simp,by simp⟩ | fail
  | true =>
    obtain ⟨a,ha,hy1⟩:=Option.bind_eq_some_iff.1 (show Option.bind _ _ = some y from XY.out)
    obtain ⟨b,hb,hy2⟩:=Option.bind_eq_some_iff.1 hy1
    obtain ⟨c,hc,hy3⟩:=Option.bind_eq_some_iff.1 hy2
    have hy:=Option.some.inj hy3
    subst hy
    clear XY hy1 hy2 hy3
    have HB:=X.out.1.later R1.out.1.later
    have HP:=keep_p X.out.2.2 R1.out.1.later
    have Q1:=AsideQ.mk (int_c SG.out.1 HB HP ha)
    have Q2:=AsideQ.mk (int_c SG.out.2.1 HB HP hb)
    have Q3:=AsideQ.mk (int_c SG.out.2.2 HB HP hc)
    have p0:PExt [] w1 P1 w1 P1:=PExt.refl R1.out.1.there
    have SP:AsideQ (∀ (w':World) (P':Prot),PExt [] w1 P1 w' P' -> w'.cell? ⟨w.heap.size,0,none⟩ = some (.int .i64 n0) /\ w'.cell? ⟨w.heap.size,1,none⟩ = some (.slice a1 (List.length p.2.1) c1) /\ w'.cell? ⟨w.heap.size,2,none⟩ = some (.slice a2 (lnks p).length c2) /\ w'.cell? ⟨w.heap.size,3,none⟩ = some (.slice a3 n3 c3) /\ w'.cell? ⟨w.heap.size,4,none⟩ = some (.slice a4 n4 c4)):=
      ⟨fun w' P' hp => five_at ((hp.block _ (Array.getElem?_eq_some_iff.1 R1.out.2).1 (by simp)).trans R1.out.2)⟩
    have S0:=SP.out _ _ (pext_dr p0)
    have hmax:=fun (w:World) (ts:Array TypeId) (t:TypeId) => max4 (M:=Tryz.prog) w ts t a b c 1
    clear HB HP ha hb hc
    go_wp2
    go_region_held3 (fun w' => w'.cell? ⟨w.heap.size,0,none⟩ = some (.int .i64 n0) /\ w'.cell? ⟨w.heap.size,1,none⟩ = some (.slice a1 (List.length p.2.1) c1) /\ w'.cell? ⟨w.heap.size,2,none⟩ = some (.slice a2 (lnks p).length c2) /\ w'.cell? ⟨w.heap.size,3,none⟩ = some (.slice a3 n3 c3) /\ w'.cell? ⟨w.heap.size,4,none⟩ = some (.slice a4 n4 c4))
      (first | exact S0 | exact SP.out _ _ (by assumption) | fail)
      (first
        | (with_reducible refine (Q1.out _ _ (pext_dr p0)).mono ?_
           rintro e w2 ⟨P2,rfl,p2⟩)
        | (with_reducible refine (Q2.out _ _ p2).mono ?_
           rintro e w3 ⟨P3,rfl,p3⟩)
        | (with_reducible refine (Q3.out _ _ p3).mono ?_
           rintro e w4 ⟨P4,rfl,p4⟩)
        | fail)
    have F4:=AsideQ.mk (R1.out.1.trans0 p4)
    clear p0 p2 p3 p4
    go_wp2
    go_ret
    first | exact ⟨_,P4,[],[],rfl,F4.out,by simp [RepV],rfl,by simp,by simp⟩ | exact ⟨_,rfl,P4,F4.out,[],by simp [RepV],[],rfl,by simp,by simp⟩ | fail
end
end Go.Proofs
