/-
  The meta layer, part 1: types of plain Go data as Lean types, and the relation between such data and the machine's values and cells.
-/
import Derived.WalkKit
namespace Go.Abs
open Go.RowKit
set_option linter.unusedVariables false
set_option linter.unusedSimpArgs false
inductive Ty where
 | int (k:IntKind)
 | bool
 | str
 | sl (e:TypeId) (t:Ty)
 | st (ts:List Ty)
 | fn (ps:List Ty) (r:Ty)
 | tup (ts:List Ty)
 | ptr (t:Ty)
inductive Md where
 | p
 | h
 | u (c:Md)
 | s (a:Md) (r:Md)
 deriving DecidableEq
def Md.child:Md -> Md | .u c => c | .h => .h | _ => .p
def Md.hd:Md -> Md | .s a _ => a | .h => .h | _ => .p
def Md.tl:Md -> Md | .s _ r => r | .h => .h | _ => .p
mutual
def Ty.den:Ty -> Type
 | .int _ => Int
 | .bool => Bool
 | .str => List UInt8
 | .sl _ t => List t.den
 | .st ts => Ty.dens ts
 | .fn ps r => Ty.dens ps -> Option r.den
 | .tup ts => Ty.dens ts
 | .ptr t => t.den
def Ty.dens:List Ty -> Type
 | [] => Unit
 | t :: ts => t.den × Ty.dens ts
end
mutual
def Ty.size:Ty -> Nat
 | .st ts => Ty.sizes ts
 | .tup _ => 0
 | _ => 1
def Ty.sizes:List Ty -> Nat
 | [] => 0
 | t :: ts => t.size + Ty.sizes ts
end
abbrev Prot:=Nat -> Nat -> Prop
def RepL {α:Type} (R:α -> List Value -> List Nat -> Prop):List α -> List Value -> List Nat -> Prop
 | [],cs,T => cs = [] /\ T = []
 | x :: xs,cs,T => ∃ c1 c2 T1 T2,cs = c1 ++ c2 /\ T = T1 ++ T2 /\ R x c1 T1 /\ RepL R xs c2 T2
def CellsIn (w:World) (b off:Nat) (cells:List Value):Prop:=∀ j v,cells[j]? = some v -> w.cell? ⟨b,off + j,none⟩ = some v
def CellsAt (w:World) (P:Prot) (b off:Nat) (cells:List Value):Prop:=
 ∀ j v,cells[j]? = some v -> w.cell? ⟨b,off + j,none⟩ = some v /\ P b (off + j)
def RowIs (w:World) (b:Nat) (e:TypeId) (n:Nat):Prop:=∃ cur,w.heap[b]? = some (.cells cur e (0,0)) /\ cur.size = n
def RepSl {α:Type} (R:Md -> α -> List Value -> List Nat -> Prop) (e:TypeId) (size:Nat) (w:World) (P:Prot) (m:Md) (x:List α) (v:Value) (T:List Nat):Prop:=
 match m with
 | .h => T = [] /\ ∃ a n c,v = .slice a n c
 | .u c => (x = [] /\ T = [] /\ v = .slice none 0 0) \/
  ∃ b cap cells Tc,v = .slice (some ⟨b,0,none⟩) x.length cap /\ x.length <= cap /\ cap <= maxLen /\ RowIs w b e (cap * size) /\ RepL (R c) x cells Tc /\ cells.length = x.length * size /\
   CellsIn w b 0 cells /\ T = b :: Tc /\ ∀ o,¬ P b o
 | _ => T = [] /\ ((x = [] /\ ∃ a,v = .slice a 0 0) \/
  ∃ b off cap cells,v = .slice (some ⟨b,off,none⟩) x.length cap /\ x.length <= cap /\ RepL (R .p) x cells [] /\ cells.length = x.length * size /\ CellsAt w P b off cells)
def RepPt {α:Type} (R:Md -> α -> List Value -> List Nat -> Prop) (w:World) (P:Prot) (m:Md) (x:α) (v:Value) (T:List Nat):Prop:=
 match m with
 | .h => T = [] /\ ∃ a,v = .pointer a
 | .u c => ∃ b cells Tc e,v = .pointer (some ⟨b,0,none⟩) /\ RowIs w b e cells.length /\ R c x cells Tc /\ CellsIn w b 0 cells /\ T = b :: Tc /\ ∀ o,¬ P b o
 | _ => T = [] /\ ∃ b off cells,v = .pointer (some ⟨b,off,none⟩) /\ R .p x cells [] /\ CellsAt w P b off cells
structure Later (w:World) (P:Prot) (w':World) (P':Prot):Prop where
 size:w.heap.size <= w'.heap.size
 prot:∀ b o,P b o -> P' b o
 cell:∀ b o v,P b o -> w.cell? ⟨b,o,none⟩ = some v -> w'.cell? ⟨b,o,none⟩ = some v
 blk:∀ b o,b < w.heap.size -> P b o -> w'.heap[b]? = w.heap[b]?
theorem Later.refl (w:World) (P:Prot):Later w P w P:=⟨Nat.le_refl _,fun _ _ h => h,fun _ _ _ _ h => h,fun _ _ _ _ => rfl⟩
theorem Later.trans {w w1 w2:World} {P P1 P2:Prot} (h:Later w P w1 P1) (k:Later w1 P1 w2 P2):Later w P w2 P2:=
 ⟨Nat.le_trans h.size k.size,fun b o p => k.prot b o (h.prot b o p),fun b o v p c => k.cell b o v (h.prot b o p) (h.cell b o v p c),
  fun b o hb p => (k.blk b o (Nat.lt_of_lt_of_le hb h.size) (h.prot b o p)).trans (h.blk b o hb p)⟩
def There (w:World) (P:Prot):Prop:=∀ b o,P b o -> ∃ v,w.cell? ⟨b,o,none⟩ = some v
structure PExt (F:List Nat) (w:World) (P:Prot) (w':World) (P':Prot):Prop where
 os:w'.os = w.os
 tape:w'.tape = w.tape
 output:w'.output = w.output
 size:w.heap.size <= w'.heap.size
 block:∀ k,k < w.heap.size -> k ∉ F -> w'.heap[k]? = w.heap[k]?
 free:∀ k ∈ F,∀ o,¬ P k o
 prot:∀ b o,P b o -> P' b o
 old:∀ b o,P' b o -> P b o \/ w.heap.size <= b \/ b ∈ F
 there:There w' P'
def Has (M : Program) (f : FuncId) : Prop := ∃ fn, M.funcs[f]? = some fn ∧ fn.name ≠ "runtime.NumGoroutine" ∧ fn.body.isSome = true
def FnOk {α β:Type} (M:Program) (A:World -> Prot -> α -> List Value -> Prop) (R:World -> Prot -> β -> Value -> Prop) (w:World) (P:Prot) (g:α -> Option β) (v:Value):Prop:=
 ∃ f fs caps,v = .func (.func f) fs caps /\ Has M f /\ ∀ w' P' x vs y,Later w P w' P' -> There w' P' -> A w' P' x vs -> g x = some y ->
  Calls M f (fs ++ vs.toArray ++ caps) w' fun e w'' => ∃ u P'',e = .returned u /\ PExt [] w' P' w'' P'' /\ R w'' P'' y u
mutual
def RepC (M:Program):(t:Ty) -> World -> Prot -> Md -> t.den -> List Value -> List Nat -> Prop
 | .int k,_,_,_,x,cs,T => cs = [.int k x] /\ T = []
 | .bool,_,_,_,x,cs,T => cs = [.bool x] /\ T = []
 | .str,_,_,_,x,cs,T => cs = [.string ⟨List.toArray x⟩] /\ T = []
 | .sl e t,w,P,m,x,cs,T => ∃ v,cs = [v] /\ RepSl (RepC M t w P) e t.size w P m x v T
 | .st ts,w,P,m,x,cs,T => RepCs M ts w P m x cs T
 | .fn ps r,w,P,_,x,cs,T => T = [] /\ ∃ v,cs = [v] /\ FnOk M (fun w P y vs => RepVs M ps w P .p y vs []) (fun w P y v => RepV M r w P .p y v []) w P x v
 | .tup _,_,_,_,_,_,_ => False
 | .ptr t,w,P,m,x,cs,T => ∃ v,cs = [v] /\ RepPt (RepC M t w P) w P m x v T
def RepCs (M:Program):(ts:List Ty) -> World -> Prot -> Md -> Ty.dens ts -> List Value -> List Nat -> Prop
 | [],_,_,_,_,cs,T => cs = [] /\ T = []
 | t :: ts,w,P,m,x,cs,T => ∃ c1 c2 T1 T2,cs = c1 ++ c2 /\ T = T1 ++ T2 /\ RepC M t w P m.hd x.1 c1 T1 /\ RepCs M ts w P m.tl x.2 c2 T2
def RepVs (M:Program):(ts:List Ty) -> World -> Prot -> Md -> Ty.dens ts -> List Value -> List Nat -> Prop
 | [],_,_,_,_,vs,T => vs = [] /\ T = []
 | t :: ts,w,P,m,x,vs,T => ∃ v r T1 T2,vs = v :: r /\ T = T1 ++ T2 /\ RepV M t w P m.hd x.1 v T1 /\ RepVs M ts w P m.tl x.2 r T2
def RepV (M:Program):(t:Ty) -> World -> Prot -> Md -> t.den -> Value -> List Nat -> Prop
 | .st ts,w,P,m,x,v,T => ∃ cs,v = .agg (List.toArray cs) /\ RepCs M ts w P m x cs T
 | .tup ts,w,P,m,x,v,T => ∃ vs,v = .tuple (List.toArray vs) /\ RepVs M ts w P m x vs T
 | .int k,_,_,_,x,v,T => v = .int k x /\ T = []
 | .bool,_,_,_,x,v,T => v = .bool x /\ T = []
 | .str,_,_,_,x,v,T => v = .string ⟨List.toArray x⟩ /\ T = []
 | .sl e t,w,P,m,x,v,T => RepSl (RepC M t w P) e t.size w P m x v T
 | .fn ps r,w,P,_,x,v,T => T = [] /\ FnOk M (fun w P y vs => RepVs M ps w P .p y vs []) (fun w P y v => RepV M r w P .p y v []) w P x v
 | .ptr t,w,P,m,x,v,T => RepPt (RepC M t w P) w P m x v T
end
def SameB (w w':World) (b:Nat):Prop:=(∀ e n,RowIs w b e n -> RowIs w' b e n) /\ ∀ o,w'.cell? ⟨b,o,none⟩ = w.cell? ⟨b,o,none⟩
theorem SameB.of {w w':World} {b:Nat} (h:w'.heap[b]? = w.heap[b]?):SameB w w' b:=
 ⟨fun e n ⟨cur,h1,h2⟩ => ⟨cur,by rw [h]; exact h1,h2⟩,fun o => World.cell?_of_block h⟩
theorem SameB.refl (w:World) (b:Nat):SameB w w b:=.of rfl
structure Keeps (w:World) (P:Prot) (w':World) (P':Prot) (T:List Nat):Prop where
 later:Later w P w' P'
 block:∀ b ∈ T,SameB w w' b
 old:∀ b ∈ T,∀ o,P' b o -> P b o
theorem Keeps.sub {w w':World} {P P':Prot} {T T':List Nat} (h:Keeps w P w' P' T) (hs:∀ b ∈ T',b ∈ T):Keeps w P w' P' T':=
 ⟨h.later,fun b hb => h.block b (hs b hb),fun b hb => h.old b (hs b hb)⟩
theorem Keeps.refl (w:World) (P:Prot) (S:List Nat):Keeps w P w P S:=⟨Later.refl w P,fun b _ => .refl w b,fun _ _ _ h => h⟩
theorem FnOk.mono {α β:Type} {M:Program} {A:World -> Prot -> α -> List Value -> Prop} {R:World -> Prot -> β -> Value -> Prop} {w w':World} {P P':Prot} {g:α -> Option β} {v:Value}
  (h:FnOk M A R w P g v) (hl:Later w P w' P'):FnOk M A R w' P' g v:=by
 obtain ⟨f,fs,caps,rfl,hh,h⟩:=h
 exact ⟨f,fs,caps,rfl,hh,fun w2 P2 x vs y l t a e => h w2 P2 x vs y (hl.trans l) t a e⟩
theorem CellsAt.mono {w w':World} {P P':Prot} {b off:Nat} {cells:List Value} (h:CellsAt w P b off cells) (hl:Later w P w' P'):CellsAt w' P' b off cells:=
 fun j v hj => ⟨hl.cell _ _ _ (h j v hj).2 (h j v hj).1,hl.prot _ _ (h j v hj).2⟩
theorem CellsIn.same {w w':World} {b off:Nat} {cells:List Value} (h:CellsIn w b off cells) (hb:SameB w w' b):CellsIn w' b off cells:=
 fun j v hj => by rw [hb.2]; exact h j v hj
theorem RowIs.same {w w':World} {b:Nat} {e:TypeId} {n:Nat} (h:RowIs w b e n) (hb:SameB w w' b):RowIs w' b e n:=hb.1 e n h
theorem RepL.mono {α:Type} {R R':α -> List Value -> List Nat -> Prop}:∀ {xs:List α} {cs:List Value} {T:List Nat},RepL R xs cs T ->
  (∀ x cs T',(∀ b ∈ T',b ∈ T) -> R x cs T' -> R' x cs T') -> RepL R' xs cs T
 | [],_,_,h,_ => h
 | x :: xs,_,_,⟨c1,c2,T1,T2,rfl,rfl,h1,h2⟩,k =>
  ⟨c1,c2,T1,T2,rfl,rfl,k _ _ _ (fun b hb => List.mem_append_left _ hb) h1,h2.mono fun x cs T' hs => k x cs T' fun b hb => List.mem_append_right _ (hs b hb)⟩
theorem RepSl.mono {α:Type} {R R':Md -> α -> List Value -> List Nat -> Prop} {e:TypeId} {size:Nat} {w w':World} {P P':Prot} {m:Md} {x:List α} {v:Value} {T:List Nat}
  (h:RepSl R e size w P m x v T) (hk:Keeps w P w' P' T) (hR:∀ m y cs T',(∀ b ∈ T',b ∈ T) -> R m y cs T' -> R' m y cs T'):RepSl R' e size w' P' m x v T:=by
 have pp:(T = [] /\ ((x = [] /\ ∃ a,v = .slice a 0 0) \/ ∃ b off cap cells,v = .slice (some ⟨b,off,none⟩) x.length cap /\ x.length <= cap /\ RepL (R .p) x cells [] /\ cells.length = x.length * size /\ CellsAt w P b off cells)) ->
   (T = [] /\ ((x = [] /\ ∃ a,v = .slice a 0 0) \/ ∃ b off cap cells,v = .slice (some ⟨b,off,none⟩) x.length cap /\ x.length <= cap /\ RepL (R' .p) x cells [] /\ cells.length = x.length * size /\ CellsAt w' P' b off cells)):=by
  rintro ⟨rfl,h | ⟨b,off,cap,cells,h1,h2,h3,h4,h5⟩⟩
  ·exact ⟨rfl,.inl h⟩
  ·exact ⟨rfl,.inr ⟨b,off,cap,cells,h1,h2,h3.mono fun y cs T' hs r => hR _ y cs T' hs r,h4,h5.mono hk.later⟩⟩
 cases m with
 | p => exact pp h
 | s a r => exact pp h
 | h => exact h
 | u c =>
  rcases h with h | ⟨b,cap,cells,Tc,h1,h2,h3,h4,h5,h6,h7,rfl,h9⟩
  ·exact .inl h
  ·have hb:SameB w w' b:=hk.block b (by simp)
   exact .inr ⟨b,cap,cells,Tc,h1,h2,h3,h4.same hb,h5.mono fun y cs T' hs r => hR _ y cs T' (fun q hq => List.mem_cons_of_mem _ (hs q hq)) r,h6,h7.same hb,rfl,
    fun o ho => h9 o (hk.old b (by simp) o ho)⟩
theorem RepPt.mono {α:Type} {R R':Md -> α -> List Value -> List Nat -> Prop} {w w':World} {P P':Prot} {m:Md} {x:α} {v:Value} {T:List Nat}
  (h:RepPt R w P m x v T) (hk:Keeps w P w' P' T) (hR:∀ m y cs T',(∀ b ∈ T',b ∈ T) -> R m y cs T' -> R' m y cs T'):RepPt R' w' P' m x v T:=by
 have pp:(T = [] /\ ∃ b off cells,v = .pointer (some ⟨b,off,none⟩) /\ R .p x cells [] /\ CellsAt w P b off cells) ->
   (T = [] /\ ∃ b off cells,v = .pointer (some ⟨b,off,none⟩) /\ R' .p x cells [] /\ CellsAt w' P' b off cells):=by
  rintro ⟨rfl,b,off,cells,h1,h2,h3⟩
  exact ⟨rfl,b,off,cells,h1,hR _ _ _ _ (fun _ hb => hb) h2,h3.mono hk.later⟩
 cases m with
 | p => exact pp h
 | s a r => exact pp h
 | h => exact h
 | u c =>
  obtain ⟨b,cells,Tc,e,h1,h2,h3,h4,rfl,h6⟩:=h
  have hb:SameB w w' b:=hk.block b (by simp)
  exact ⟨b,cells,Tc,e,h1,h2.same hb,hR _ _ _ _ (fun q hq => List.mem_cons_of_mem _ hq) h3,h4.same hb,rfl,fun o ho => h6 o (hk.old b (by simp) o ho)⟩
mutual
theorem RepC.mono {M:Program}:(t:Ty) -> ∀ {w w':World} {P P':Prot} {m:Md} {x:t.den} {cs:List Value} {T:List Nat},RepC M t w P m x cs T -> Keeps w P w' P' T -> RepC M t w' P' m x cs T
 | .int k,_,_,_,_,_,_,_,_,h,_ => by simpa only [RepC] using h
 | .bool,_,_,_,_,_,_,_,_,h,_ => by simpa only [RepC] using h
 | .str,_,_,_,_,_,_,_,_,h,_ => by simpa only [RepC] using h
 | .sl e t,_,_,_,_,_,_,_,_,h,hk => by
  simp only [RepC] at h ⊢
  obtain ⟨v,hv,h⟩:=h
  exact ⟨v,hv,h.mono hk fun m y cs T' hs r => RepC.mono t r (hk.sub hs)⟩
 | .st ts,_,_,_,_,_,_,_,_,h,hk => by
  simp only [RepC] at h ⊢
  exact RepCs.mono ts h hk
 | .fn ps r,_,_,_,_,_,_,_,_,h,hk => by
  simp only [RepC] at h ⊢
  obtain ⟨hT,v,hv,h⟩:=h
  exact ⟨hT,v,hv,h.mono hk.later⟩
 | .tup _,_,_,_,_,_,_,_,_,h,_ => by simp only [RepC] at h
 | .ptr t,_,_,_,_,_,_,_,_,h,hk => by
  simp only [RepC] at h ⊢
  obtain ⟨v,hv,h⟩:=h
  exact ⟨v,hv,h.mono hk fun m y cs T' hs r => RepC.mono t r (hk.sub hs)⟩
theorem RepCs.mono {M:Program}:(ts:List Ty) -> ∀ {w w':World} {P P':Prot} {m:Md} {x:Ty.dens ts} {cs:List Value} {T:List Nat},RepCs M ts w P m x cs T -> Keeps w P w' P' T -> RepCs M ts w' P' m x cs T
 | [],_,_,_,_,_,_,_,_,h,_ => by simpa only [RepCs] using h
 | t :: ts,_,_,_,_,_,_,_,_,h,hk => by
  simp only [RepCs] at h ⊢
  obtain ⟨c1,c2,T1,T2,rfl,rfl,h1,h2⟩:=h
  exact ⟨c1,c2,T1,T2,rfl,rfl,RepC.mono t h1 (hk.sub fun b hb => List.mem_append_left _ hb),RepCs.mono ts h2 (hk.sub fun b hb => List.mem_append_right _ hb)⟩
end
mutual
theorem RepV.mono {M:Program}:(t:Ty) -> ∀ {w w':World} {P P':Prot} {m:Md} {x:t.den} {v:Value} {T:List Nat},RepV M t w P m x v T -> Keeps w P w' P' T -> RepV M t w' P' m x v T
 | .int k,_,_,_,_,_,_,_,_,h,_ => by simpa only [RepV] using h
 | .bool,_,_,_,_,_,_,_,_,h,_ => by simpa only [RepV] using h
 | .str,_,_,_,_,_,_,_,_,h,_ => by simpa only [RepV] using h
 | .sl e t,_,_,_,_,_,_,_,_,h,hk => by
  simp only [RepV] at h ⊢
  exact h.mono hk fun m y cs T' hs r => RepC.mono t r (hk.sub hs)
 | .ptr t,_,_,_,_,_,_,_,_,h,hk => by
  simp only [RepV] at h ⊢
  exact h.mono hk fun m y cs T' hs r => RepC.mono t r (hk.sub hs)
 | .st ts,_,_,_,_,_,_,_,_,h,hk => by
  simp only [RepV] at h ⊢
  obtain ⟨cs,hv,h⟩:=h
  exact ⟨cs,hv,RepCs.mono ts h hk⟩
 | .fn ps r,_,_,_,_,_,_,_,_,h,hk => by
  simp only [RepV] at h ⊢
  exact ⟨h.1,h.2.mono hk.later⟩
 | .tup ts,_,_,_,_,_,_,_,_,h,hk => by
  simp only [RepV] at h ⊢
  obtain ⟨vs,hv,h⟩:=h
  exact ⟨vs,hv,RepVs.mono ts h hk⟩
theorem RepVs.mono {M:Program}:(ts:List Ty) -> ∀ {w w':World} {P P':Prot} {m:Md} {x:Ty.dens ts} {vs:List Value} {T:List Nat},RepVs M ts w P m x vs T -> Keeps w P w' P' T -> RepVs M ts w' P' m x vs T
 | [],_,_,_,_,_,_,_,_,h,_ => by simpa only [RepVs] using h
 | t :: ts,_,_,_,_,_,_,_,_,h,hk => by
  simp only [RepVs] at h ⊢
  obtain ⟨v,r,T1,T2,rfl,rfl,h1,h2⟩:=h
  exact ⟨v,r,T1,T2,rfl,rfl,RepV.mono t h1 (hk.sub fun b hb => List.mem_append_left _ hb),RepVs.mono ts h2 (hk.sub fun b hb => List.mem_append_right _ hb)⟩
end
def valOf:Ty -> List Value -> Value
 | .st _,cs => .agg (List.toArray cs)
 | _,cs => cs.headD undef
theorem Bh {M:Program} {w:World} {P:Prot}:(t:Ty) -> ∀ {m:Md} {x:t.den} {cs:List Value} {T:List Nat},RepC M t w P m x cs T -> RepV M t w P m x (valOf t cs) T
 | .int k,_,_,_,_,h => by simp only [RepC] at h; obtain ⟨rfl,rfl⟩:=h; simp [RepV,valOf]
 | .bool,_,_,_,_,h => by simp only [RepC] at h; obtain ⟨rfl,rfl⟩:=h; simp [RepV,valOf]
 | .str,_,_,_,_,h => by simp only [RepC] at h; obtain ⟨rfl,rfl⟩:=h; simp [RepV,valOf]
 | .sl e t,_,_,_,_,h => by simp only [RepC] at h; obtain ⟨v,rfl,h⟩:=h; simpa only [RepV,valOf,List.headD] using h
 | .ptr t,_,_,_,_,h => by simp only [RepC] at h; obtain ⟨v,rfl,h⟩:=h; simpa only [RepV,valOf,List.headD] using h
 | .st ts,_,_,cs,_,h => by simp only [RepC] at h; simp only [RepV,valOf]; exact ⟨cs,rfl,h⟩
 | .fn ps r,_,_,_,_,h => by simp only [RepC] at h; obtain ⟨rfl,v,rfl,h⟩:=h; simpa only [RepV,valOf,List.headD,true_and] using h
 | .tup _,_,_,_,_,h => by simp only [RepC] at h
def Ty.cell:Ty -> Bool | .tup _ => false | _ => true
theorem RepSl.one {α:Type} {R:Md -> α -> List Value -> List Nat -> Prop} {e:TypeId} {size:Nat} {w:World} {P:Prot} {m:Md} {x:List α} {v:Value} {T:List Nat}
  (h:RepSl R e size w P m x v T):∃ a n c,v = .slice a n c:=by
 cases m with
 | h => exact h.2
 | u c => rcases h with ⟨_,_,h⟩ | ⟨b,cap,cells,Tc,h,_⟩ <;> exact ⟨_,_,_,h⟩
 | p => rcases h with ⟨_,⟨_,a,h⟩ | ⟨b,off,cap,cells,h,_⟩⟩ <;> exact ⟨_,_,_,h⟩
 | s a r => rcases h with ⟨_,⟨_,a,h⟩ | ⟨b,off,cap,cells,h,_⟩⟩ <;> exact ⟨_,_,_,h⟩
theorem RepPt.one {α:Type} {R:Md -> α -> List Value -> List Nat -> Prop} {w:World} {P:Prot} {m:Md} {x:α} {v:Value} {T:List Nat}
  (h:RepPt R w P m x v T):∃ a,v = .pointer a:=by
 cases m with
 | h => exact h.2
 | u c => obtain ⟨b,cells,Tc,e,h,_⟩:=h; exact ⟨_,h⟩
 | p => obtain ⟨_,b,off,cells,h,_⟩:=h; exact ⟨_,h⟩
 | s a r => obtain ⟨_,b,off,cells,h,_⟩:=h; exact ⟨_,h⟩
theorem Bb {M:Program} {w:World} {P:Prot}:(t:Ty) -> t.cell = true -> ∀ {m:Md} {x:t.den} {v:Value} {T:List Nat},RepV M t w P m x v T -> RepC M t w P m x v.cells.toList T /\ valOf t v.cells.toList = v
 | .int k,_,_,_,_,_,h => by simp only [RepV] at h; obtain ⟨rfl,rfl⟩:=h; simp [RepC,Value.cells,valOf]
 | .bool,_,_,_,_,_,h => by simp only [RepV] at h; obtain ⟨rfl,rfl⟩:=h; simp [RepC,Value.cells,valOf]
 | .str,_,_,_,_,_,h => by simp only [RepV] at h; obtain ⟨rfl,rfl⟩:=h; simp [RepC,Value.cells,valOf]
 | .sl e t,_,_,_,v,_,h => by
  simp only [RepV] at h
  have hv:v.cells = #[v]:=by obtain ⟨a,n,c,rfl⟩:=h.one; rfl
  rw [hv]
  exact ⟨by simp only [RepC]; exact ⟨v,rfl,h⟩,rfl⟩
 | .ptr t,_,_,_,v,_,h => by
  simp only [RepV] at h
  have hv:v.cells = #[v]:=by obtain ⟨a,rfl⟩:=h.one; rfl
  rw [hv]
  exact ⟨by simp only [RepC]; exact ⟨v,rfl,h⟩,rfl⟩
 | .st ts,_,_,_,_,_,h => by simp only [RepV] at h; obtain ⟨cs,rfl,h⟩:=h; simp only [RepC,Value.cells,valOf]; exact ⟨h,trivial⟩
 | .fn ps r,_,_,_,v,_,h => by
  simp only [RepV] at h
  obtain ⟨rfl,h⟩:=h
  have hv:v.cells = #[v]:=by obtain ⟨f,fs,caps,rfl,_⟩:=h; rfl
  rw [hv]
  exact ⟨by simp only [RepC]; exact ⟨trivial,v,rfl,h⟩,rfl⟩
 | .tup _,h,_,_,_,_,_ => by simp [Ty.cell] at h
mutual
theorem RepC.length {M:Program} {w:World} {P:Prot}:(t:Ty) -> ∀ {m:Md} {x:t.den} {cs:List Value} {T:List Nat},RepC M t w P m x cs T -> cs.length = t.size /\ ∀ c ∈ cs,c.oneCell' = true
 | .int k,_,_,_,_,h => by simp only [RepC] at h; obtain ⟨rfl,rfl⟩:=h; simp [Ty.size,Value.oneCell']
 | .bool,_,_,_,_,h => by simp only [RepC] at h; obtain ⟨rfl,rfl⟩:=h; simp [Ty.size,Value.oneCell']
 | .str,_,_,_,_,h => by simp only [RepC] at h; obtain ⟨rfl,rfl⟩:=h; simp [Ty.size,Value.oneCell']
 | .sl e t,_,_,_,_,h => by
  simp only [RepC] at h
  obtain ⟨v,rfl,h⟩:=h
  obtain ⟨a,n,c,rfl⟩:=h.one
  simp [Ty.size,Value.oneCell']
 | .ptr t,_,_,_,_,h => by
  simp only [RepC] at h
  obtain ⟨v,rfl,h⟩:=h
  obtain ⟨a,rfl⟩:=h.one
  simp [Ty.size,Value.oneCell']
 | .st ts,_,_,_,_,h => by simp only [RepC] at h; simpa only [Ty.size] using RepCs.length ts h
 | .fn ps r,_,_,_,_,h => by
  simp only [RepC] at h
  obtain ⟨rfl,v,rfl,f,fs,caps,rfl,_⟩:=h
  simp [Ty.size,Value.oneCell']
 | .tup _,_,_,_,_,h => by simp only [RepC] at h
theorem RepCs.length {M:Program} {w:World} {P:Prot}:(ts:List Ty) -> ∀ {m:Md} {x:Ty.dens ts} {cs:List Value} {T:List Nat},RepCs M ts w P m x cs T -> cs.length = Ty.sizes ts /\ ∀ c ∈ cs,c.oneCell' = true
 | [],_,_,_,_,h => by simp only [RepCs] at h; obtain ⟨rfl,rfl⟩:=h; simp [Ty.sizes]
 | t :: ts,_,_,_,_,h => by
  simp only [RepCs] at h
  obtain ⟨c1,c2,T1,T2,rfl,rfl,h1,h2⟩:=h
  have k1:=RepC.length t h1
  have k2:=RepCs.length ts h2
  refine ⟨by simp only [Ty.sizes,List.length_append,k1.1,k2.1],fun c hc => ?_⟩
  rcases List.mem_append.1 hc with hc | hc
  ·exact k1.2 c hc
  ·exact k2.2 c hc
end
theorem RepL.nil_of {α:Type} {R:α -> List Value -> List Nat -> Prop} (hR:∀ x cs T,R x cs T -> T = []):∀ {xs:List α} {cs:List Value} {T:List Nat},RepL R xs cs T -> T = []
 | [],_,_,h => h.2
 | x :: xs,_,_,⟨c1,c2,T1,T2,_,rfl,h1,h2⟩ => by rw [hR _ _ _ h1,RepL.nil_of hR h2]; rfl
mutual
theorem RepC.p_nil {M:Program} {w:World} {P:Prot}:(t:Ty) -> ∀ {x:t.den} {cs:List Value} {T:List Nat},RepC M t w P .p x cs T -> T = []
 | .int k,_,_,_,h => by simp only [RepC] at h; exact h.2
 | .bool,_,_,_,h => by simp only [RepC] at h; exact h.2
 | .str,_,_,_,h => by simp only [RepC] at h; exact h.2
 | .sl e t,_,_,_,h => by
  simp only [RepC] at h
  obtain ⟨v,hv,h⟩:=h
  exact h.1
 | .ptr t,_,_,_,h => by
  simp only [RepC] at h
  obtain ⟨v,hv,h⟩:=h
  exact h.1
 | .st ts,_,_,_,h => by
  simp only [RepC] at h
  exact RepCs.p_nil ts h
 | .fn ps r,_,_,_,h => by simp only [RepC] at h; exact h.1
 | .tup _,_,_,_,h => by simp only [RepC] at h
theorem RepCs.p_nil {M:Program} {w:World} {P:Prot}:(ts:List Ty) -> ∀ {x:Ty.dens ts} {cs:List Value} {T:List Nat},RepCs M ts w P .p x cs T -> T = []
 | [],_,_,_,h => by simp only [RepCs] at h; exact h.2
 | t :: ts,_,_,_,h => by
  simp only [RepCs] at h
  obtain ⟨c1,c2,T1,T2,rfl,rfl,h1,h2⟩:=h
  rw [RepC.p_nil t h1,RepCs.p_nil ts h2]; rfl
end
mutual
theorem RepV.p_nil {M:Program} {w:World} {P:Prot}:(t:Ty) -> ∀ {x:t.den} {v:Value} {T:List Nat},RepV M t w P .p x v T -> T = []
 | .int k,_,_,_,h => by simp only [RepV] at h; exact h.2
 | .bool,_,_,_,h => by simp only [RepV] at h; exact h.2
 | .str,_,_,_,h => by simp only [RepV] at h; exact h.2
 | .sl e t,_,_,_,h => by simp only [RepV] at h; exact h.1
 | .ptr t,_,_,_,h => by simp only [RepV] at h; exact h.1
 | .st ts,_,_,_,h => by
  simp only [RepV] at h
  obtain ⟨cs,_,h⟩:=h
  exact RepCs.p_nil ts h
 | .fn ps r,_,_,_,h => by simp only [RepV] at h; exact h.1
 | .tup ts,_,_,_,h => by
  simp only [RepV] at h
  obtain ⟨vs,_,h⟩:=h
  exact RepVs.p_nil ts h
theorem RepVs.p_nil {M:Program} {w:World} {P:Prot}:(ts:List Ty) -> ∀ {x:Ty.dens ts} {vs:List Value} {T:List Nat},RepVs M ts w P .p x vs T -> T = []
 | [],_,_,_,h => by simp only [RepVs] at h; exact h.2
 | t :: ts,_,_,_,h => by
  simp only [RepVs] at h
  obtain ⟨v,r,T1,T2,rfl,rfl,h1,h2⟩:=h
  rw [RepV.p_nil t h1,RepVs.p_nil ts h2]; rfl
end
mutual
def Ty.fz:Ty -> Md -> Bool
 | .sl _ _,m => (match m with | .u _ => false | .h => false | _ => true)
 | .ptr _,m => (match m with | .u _ => false | .h => false | _ => true)
 | .st ts,m => Ty.fzs ts m
 | .tup ts,m => Ty.fzs ts m
 | _,_ => true
def Ty.fzs:List Ty -> Md -> Bool
 | [],_ => true
 | t :: ts,m => t.fz m.hd && Ty.fzs ts m.tl
end
mutual
def Ty.nh:Ty -> Md -> Bool
 | .sl _ t,m => (match m with | .h => false | .u c => t.nh c | _ => true)
 | .ptr t,m => (match m with | .h => false | .u c => t.nh c | _ => true)
 | .st ts,m => Ty.nhs ts m
 | .tup ts,m => Ty.nhs ts m
 | _,_ => true
def Ty.nhs:List Ty -> Md -> Bool
 | [],_ => true
 | t :: ts,m => t.nh m.hd && Ty.nhs ts m.tl
end
mutual
def Ty.le:Ty -> (a b:Md) -> Bool
 | .sl e t,a,b => (match b with
  | .h => true
  | .u c => (match a with | .u c' => t.le c' c | _ => false)
  | _ => (Ty.sl e t).nh a)
 | .ptr t,a,b => (match b with
  | .h => true
  | .u c => (match a with | .u c' => t.le c' c | _ => false)
  | _ => (Ty.ptr t).nh a)
 | .st ts,a,b => Ty.les ts a b
 | .tup ts,a,b => Ty.les ts a b
 | _,_,_ => true
def Ty.les:List Ty -> (a b:Md) -> Bool
 | [],_,_ => true
 | t :: ts,a,b => t.le a.hd b.hd && Ty.les ts a.tl b.tl
end
def Prot.add (P:Prot) (w:World) (D:List Nat):Prot:=fun b o => P b o \/ (b ∈ D /\ ∃ v,w.cell? ⟨b,o,none⟩ = some v)
theorem Later.add (w:World) (P:Prot) (D:List Nat):Later w P w (P.add w D):=⟨Nat.le_refl _,fun _ _ h => .inl h,fun _ _ _ _ h => h,fun _ _ _ _ => rfl⟩
theorem Keeps.add {w:World} {P:Prot} {D S:List Nat} (h:∀ b ∈ S,b ∉ D):Keeps w P w (P.add w D) S:=
 ⟨Later.add w P D,fun b _ => .refl w b,fun b hb o ho => by rcases ho with ho | ⟨ho,_⟩; exact ho; exact absurd ho (h b hb)⟩
theorem There.add {w:World} {P:Prot} (h:There w P) (D:List Nat):There w (P.add w D):=fun b o ho => by
 rcases ho with ho | ⟨_,ho⟩
 ·exact h b o ho
 ·exact ho
theorem Keeps.addMono {w:World} {P:Prot} {D D' S:List Nat} (hs:∀ b ∈ D,b ∈ D') (h:∀ b ∈ S,b ∈ D' -> b ∈ D):Keeps w (P.add w D) w (P.add w D') S:=
 ⟨⟨Nat.le_refl _,fun b o ho => by rcases ho with ho | ⟨h1,h2⟩; exact .inl ho; exact .inr ⟨hs b h1,h2⟩,fun _ _ _ _ h => h,fun _ _ _ _ => rfl⟩,fun b _ => .refl w b,
  fun b hb o ho => by rcases ho with ho | ⟨h1,h2⟩; exact .inl ho; exact .inr ⟨h b hb h1,h2⟩⟩
theorem RepL.all {α:Type} {R R':α -> List Value -> List Nat -> Prop}:∀ {xs:List α} {cs:List Value} {T:List Nat},RepL R xs cs T ->
  (∀ x cs T',(∀ b ∈ T',b ∈ T) -> R x cs T' -> R' x cs []) -> RepL R' xs cs []
 | [],_,_,h,_ => ⟨h.1,rfl⟩
 | x :: xs,_,_,⟨c1,c2,T1,T2,rfl,rfl,h1,h2⟩,k =>
  ⟨c1,c2,[],[],rfl,rfl,k _ _ _ (fun b hb => List.mem_append_left _ hb) h1,h2.all fun x cs T' hs => k x cs T' fun b hb => List.mem_append_right _ (hs b hb)⟩
mutual
theorem RepC.freeze {M:Program} {w:World} {P P':Prot} (hl:Later w P w P'):(t:Ty) -> ∀ {m:Md} {x:t.den} {cs:List Value} {T:List Nat},RepC M t w P m x cs T -> t.nh m = true ->
  (∀ b ∈ T,∀ o v,w.cell? ⟨b,o,none⟩ = some v -> P' b o) -> RepC M t w P' .p x cs []
 | .int k,_,_,_,_,h,_,_ => by simp only [RepC] at h ⊢; exact ⟨h.1,trivial⟩
 | .bool,_,_,_,_,h,_,_ => by simp only [RepC] at h ⊢; exact ⟨h.1,trivial⟩
 | .str,_,_,_,_,h,_,_ => by simp only [RepC] at h ⊢; exact ⟨h.1,trivial⟩
 | .sl e t,m,x,cs,T,h,hn,hP => by
  simp only [RepC] at h ⊢
  obtain ⟨v,hv,h⟩:=h
  refine ⟨v,hv,rfl,?_⟩
  have pp:(T = [] /\ ((x = [] /\ ∃ a,v = .slice a 0 0) \/ ∃ b off cap cells,v = .slice (some ⟨b,off,none⟩) x.length cap /\ x.length <= cap /\ RepL (RepC M t w P .p) x cells [] /\ cells.length = x.length * t.size /\ CellsAt w P b off cells)) ->
   ((x = [] /\ ∃ a,v = .slice a 0 0) \/ ∃ b off cap cells,v = .slice (some ⟨b,off,none⟩) x.length cap /\ x.length <= cap /\ RepL (RepC M t w P' .p) x cells [] /\ cells.length = x.length * t.size /\ CellsAt w P' b off cells):=by
   rintro ⟨rfl,h | ⟨b,off,cap,cells,h1,h2,h3,h4,h5⟩⟩
   ·exact .inl h
   ·exact .inr ⟨b,off,cap,cells,h1,h2,h3.mono fun y cs T' hs r => RepC.mono t r ⟨hl,fun b _ => .refl w b,fun b hb => absurd (hs b hb) (by simp)⟩,h4,h5.mono hl⟩
  cases m with
  | p => exact pp h
  | s a r => exact pp h
  | h => simp [Ty.nh] at hn
  | u c =>
   rcases h with ⟨h1,_,h2⟩ | ⟨b,cap,cells,Tc,h1,h2,h3,h4,h5,h6,h7,rfl,h9⟩
   ·exact .inl ⟨h1,_,h2⟩
   ·refine .inr ⟨b,0,cap,cells,h1,h2,?_,h6,fun j v hj => ⟨h7 j v hj,hP b (by simp) _ v (h7 j v hj)⟩⟩
    exact h5.all fun y cs T' hs r => RepC.freeze hl t r (by simpa [Ty.nh] using hn) fun b hb => hP b (List.mem_cons_of_mem _ (hs b hb))
 | .ptr t,m,x,cs,T,h,hn,hP => by
  simp only [RepC] at h ⊢
  obtain ⟨v,hv,h⟩:=h
  refine ⟨v,hv,rfl,?_⟩
  have pp:(T = [] /\ ∃ b off cells,v = .pointer (some ⟨b,off,none⟩) /\ RepC M t w P .p x cells [] /\ CellsAt w P b off cells) ->
    ∃ b off cells,v = .pointer (some ⟨b,off,none⟩) /\ RepC M t w P' .p x cells [] /\ CellsAt w P' b off cells:=by
   rintro ⟨rfl,b,off,cells,h1,h2,h3⟩
   exact ⟨b,off,cells,h1,RepC.mono t h2 ⟨hl,fun b _ => .refl w b,fun b hb => absurd hb (by simp)⟩,h3.mono hl⟩
  cases m with
  | p => exact pp h
  | s a r => exact pp h
  | h => simp [Ty.nh] at hn
  | u c =>
   obtain ⟨b,cells,Tc,e,h1,h2,h3,h4,rfl,h6⟩:=h
   refine ⟨b,0,cells,h1,?_,fun j v hj => ⟨h4 j v hj,hP b (by simp) _ v (h4 j v hj)⟩⟩
   exact RepC.freeze hl t h3 (by simpa [Ty.nh] using hn) fun b hb => hP b (List.mem_cons_of_mem _ hb)
 | .st ts,_,_,_,_,h,hn,hP => by
  simp only [RepC] at h ⊢
  exact RepCs.freeze hl ts h (by simpa [Ty.nh] using hn) hP
 | .fn ps r,_,_,_,_,h,_,_ => by
  simp only [RepC] at h ⊢
  obtain ⟨hT,v,hv,h⟩:=h
  exact ⟨trivial,v,hv,h.mono hl⟩
 | .tup _,_,_,_,_,h,_,_ => by simp only [RepC] at h
theorem RepCs.freeze {M:Program} {w:World} {P P':Prot} (hl:Later w P w P'):(ts:List Ty) -> ∀ {m:Md} {x:Ty.dens ts} {cs:List Value} {T:List Nat},RepCs M ts w P m x cs T -> Ty.nhs ts m = true ->
  (∀ b ∈ T,∀ o v,w.cell? ⟨b,o,none⟩ = some v -> P' b o) -> RepCs M ts w P' .p x cs []
 | [],_,_,_,_,h,_,_ => by simp only [RepCs] at h ⊢; exact ⟨h.1,trivial⟩
 | t :: ts,_,_,_,_,h,hn,hP => by
  simp only [RepCs] at h ⊢
  simp only [Ty.nhs,Bool.and_eq_true] at hn
  obtain ⟨c1,c2,T1,T2,rfl,rfl,h1,h2⟩:=h
  exact ⟨c1,c2,[],[],rfl,rfl,RepC.freeze hl t h1 hn.1 fun b hb => hP b (List.mem_append_left _ hb),RepCs.freeze hl ts h2 hn.2 fun b hb => hP b (List.mem_append_right _ hb)⟩
end
mutual
theorem RepV.freeze {M:Program} {w:World} {P P':Prot} (hl:Later w P w P'):(t:Ty) -> ∀ {m:Md} {x:t.den} {v:Value} {T:List Nat},RepV M t w P m x v T -> t.nh m = true ->
  (∀ b ∈ T,∀ o v,w.cell? ⟨b,o,none⟩ = some v -> P' b o) -> RepV M t w P' .p x v []
 | .tup ts,m,x,v,T,h,hn,hP => by
  simp only [RepV] at h ⊢
  obtain ⟨vs,hv,h⟩:=h
  exact ⟨vs,hv,RepVs.freeze hl ts h (by simpa [Ty.nh] using hn) hP⟩
 | .int k,_,_,_,_,h,_,_ => by simp only [RepV] at h ⊢; exact ⟨h.1,trivial⟩
 | .bool,_,_,_,_,h,_,_ => by simp only [RepV] at h ⊢; exact ⟨h.1,trivial⟩
 | .str,_,_,_,_,h,_,_ => by simp only [RepV] at h ⊢; exact ⟨h.1,trivial⟩
 | .sl e t,m,x,v,T,h,hn,hP => by
  obtain ⟨h1,h2⟩:=Bb (.sl e t) rfl h
  have:=Bh _ (RepC.freeze hl _ h1 hn hP)
  rwa [h2] at this
 | .ptr t,m,x,v,T,h,hn,hP => by
  obtain ⟨h1,h2⟩:=Bb (.ptr t) rfl h
  have:=Bh _ (RepC.freeze hl _ h1 hn hP)
  rwa [h2] at this
 | .st ts,m,x,v,T,h,hn,hP => by
  obtain ⟨h1,h2⟩:=Bb (.st ts) rfl h
  have:=Bh _ (RepC.freeze hl _ h1 hn hP)
  rwa [h2] at this
 | .fn ps r,m,x,v,T,h,hn,hP => by
  obtain ⟨h1,h2⟩:=Bb (.fn ps r) rfl h
  have:=Bh _ (RepC.freeze hl _ h1 hn hP)
  rwa [h2] at this
theorem RepVs.freeze {M:Program} {w:World} {P P':Prot} (hl:Later w P w P'):(ts:List Ty) -> ∀ {m:Md} {x:Ty.dens ts} {vs:List Value} {T:List Nat},RepVs M ts w P m x vs T -> Ty.nhs ts m = true ->
  (∀ b ∈ T,∀ o v,w.cell? ⟨b,o,none⟩ = some v -> P' b o) -> RepVs M ts w P' .p x vs []
 | [],_,_,_,_,h,_,_ => by simp only [RepVs] at h ⊢; exact ⟨h.1,trivial⟩
 | t :: ts,_,_,_,_,h,hn,hP => by
  simp only [RepVs] at h ⊢
  simp only [Ty.nhs,Bool.and_eq_true] at hn
  obtain ⟨v,r,T1,T2,rfl,rfl,h1,h2⟩:=h
  exact ⟨v,r,[],[],rfl,rfl,RepV.freeze hl t h1 hn.1 fun b hb => hP b (List.mem_append_left _ hb),RepVs.freeze hl ts h2 hn.2 fun b hb => hP b (List.mem_append_right _ hb)⟩
end
mutual
theorem Ty.nh_of_fz:(t:Ty) -> ∀ {m:Md},t.fz m = true -> t.nh m = true
 | .sl e t,m,h => by cases m <;> simp_all [Ty.fz,Ty.nh]
 | .ptr t,m,h => by cases m <;> simp_all [Ty.fz,Ty.nh]
 | .st ts,m,h => by simp only [Ty.fz,Ty.nh] at h ⊢; exact Ty.nhs_of_fzs ts h
 | .tup ts,m,h => by simp only [Ty.fz,Ty.nh] at h ⊢; exact Ty.nhs_of_fzs ts h
 | .int _,_,_ => rfl
 | .bool,_,_ => rfl
 | .str,_,_ => rfl
 | .fn _ _,_,_ => rfl
theorem Ty.nhs_of_fzs:(ts:List Ty) -> ∀ {m:Md},Ty.fzs ts m = true -> Ty.nhs ts m = true
 | [],_,_ => rfl
 | t :: ts,m,h => by
  simp only [Ty.fzs,Ty.nhs,Bool.and_eq_true] at h ⊢
  exact ⟨Ty.nh_of_fz t h.1,Ty.nhs_of_fzs ts h.2⟩
end
mutual
theorem RepC.fz_nil {M:Program} {w:World} {P:Prot}:(t:Ty) -> ∀ {m:Md} {x:t.den} {cs:List Value} {T:List Nat},RepC M t w P m x cs T -> t.fz m = true -> T = []
 | .int k,_,_,_,_,h,_ => by simp only [RepC] at h; exact h.2
 | .bool,_,_,_,_,h,_ => by simp only [RepC] at h; exact h.2
 | .str,_,_,_,_,h,_ => by simp only [RepC] at h; exact h.2
 | .sl e t,m,_,_,_,h,hf => by
  simp only [RepC] at h
  obtain ⟨v,hv,h⟩:=h
  cases m <;> first | exact h.1 | simp [Ty.fz] at hf
 | .ptr t,m,_,_,_,h,hf => by
  simp only [RepC] at h
  obtain ⟨v,hv,h⟩:=h
  cases m <;> first | exact h.1 | simp [Ty.fz] at hf
 | .st ts,_,_,_,_,h,hf => by
  simp only [RepC] at h
  exact RepCs.fz_nil ts h (by simpa [Ty.fz] using hf)
 | .fn ps r,_,_,_,_,h,_ => by simp only [RepC] at h; exact h.1
 | .tup _,_,_,_,_,h,_ => by simp only [RepC] at h
theorem RepCs.fz_nil {M:Program} {w:World} {P:Prot}:(ts:List Ty) -> ∀ {m:Md} {x:Ty.dens ts} {cs:List Value} {T:List Nat},RepCs M ts w P m x cs T -> Ty.fzs ts m = true -> T = []
 | [],_,_,_,_,h,_ => by simp only [RepCs] at h; exact h.2
 | t :: ts,_,_,_,_,h,hf => by
  simp only [RepCs] at h
  simp only [Ty.fzs,Bool.and_eq_true] at hf
  obtain ⟨c1,c2,T1,T2,rfl,rfl,h1,h2⟩:=h
  rw [RepC.fz_nil t h1 hf.1,RepCs.fz_nil ts h2 hf.2]; rfl
end
mutual
theorem RepV.fz_nil {M:Program} {w:World} {P:Prot}:(t:Ty) -> ∀ {m:Md} {x:t.den} {v:Value} {T:List Nat},RepV M t w P m x v T -> t.fz m = true -> T = []
 | .int k,_,_,_,_,h,_ => by simp only [RepV] at h; exact h.2
 | .bool,_,_,_,_,h,_ => by simp only [RepV] at h; exact h.2
 | .str,_,_,_,_,h,_ => by simp only [RepV] at h; exact h.2
 | .sl e t,m,_,_,_,h,hf => by
  simp only [RepV] at h
  cases m <;> first | exact h.1 | simp [Ty.fz] at hf
 | .ptr t,m,_,_,_,h,hf => by
  simp only [RepV] at h
  cases m <;> first | exact h.1 | simp [Ty.fz] at hf
 | .st ts,_,_,_,_,h,hf => by
  simp only [RepV] at h
  obtain ⟨cs,_,h⟩:=h
  exact RepCs.fz_nil ts h (by simpa [Ty.fz] using hf)
 | .fn ps r,_,_,_,_,h,_ => by simp only [RepV] at h; exact h.1
 | .tup ts,_,_,_,_,h,hf => by
  simp only [RepV] at h
  obtain ⟨vs,_,h⟩:=h
  exact RepVs.fz_nil ts h (by simpa [Ty.fz] using hf)
theorem RepVs.fz_nil {M:Program} {w:World} {P:Prot}:(ts:List Ty) -> ∀ {m:Md} {x:Ty.dens ts} {vs:List Value} {T:List Nat},RepVs M ts w P m x vs T -> Ty.fzs ts m = true -> T = []
 | [],_,_,_,_,h,_ => by simp only [RepVs] at h; exact h.2
 | t :: ts,_,_,_,_,h,hf => by
  simp only [RepVs] at h
  simp only [Ty.fzs,Bool.and_eq_true] at hf
  obtain ⟨v,r,T1,T2,rfl,rfl,h1,h2⟩:=h
  rw [RepV.fz_nil t h1 hf.1,RepVs.fz_nil ts h2 hf.2]; rfl
end
theorem RepC.shared {M:Program} {w:World} {P:Prot} {t:Ty} {m:Md} {x:t.den} {cs:List Value} {T:List Nat} (h:RepC M t w P m x cs T) (hf:t.fz m = true):RepC M t w P .p x cs []:=by
 have hT:=RepC.fz_nil t h hf
 subst hT
 exact RepC.freeze (Later.refl w P) t h (Ty.nh_of_fz t hf) (by simp)
theorem RepV.shared {M:Program} {w:World} {P:Prot} {t:Ty} {m:Md} {x:t.den} {v:Value} {T:List Nat} (h:RepV M t w P m x v T) (hf:t.fz m = true):RepV M t w P .p x v []:=by
 have hT:=RepV.fz_nil t h hf
 subst hT
 exact RepV.freeze (Later.refl w P) t h (Ty.nh_of_fz t hf) (by simp)
def Coer (R:Prot -> List Nat -> Prop) (w:World) (P:Prot) (T:List Nat):Prop:=
 ∃ T' D,List.Sublist T' T /\ (∀ c ∈ D,c ∈ T /\ c ∉ T') /\ R (P.add w D) T'
theorem Prot.add_nil (P:Prot) (w:World):P.add w [] = P:=by
 funext b o
 simp [Prot.add]
theorem Coer.app {R1 R2:Prot -> List Nat -> Prop} {w:World} {P:Prot} {T1 T2:List Nat} (h1:Coer R1 w P T1) (h2:Coer R2 w P T2) (hn:(T1 ++ T2).Nodup)
  (m1:∀ {P P' T},R1 P T -> Keeps w P w P' T -> R1 P' T) (m2:∀ {P P' T},R2 P T -> Keeps w P w P' T -> R2 P' T) :
  ∃ U1 U2 D,List.Sublist U1 T1 /\ List.Sublist U2 T2 /\ (∀ c ∈ D,c ∈ T1 ++ T2 /\ c ∉ U1 ++ U2) /\ R1 (P.add w D) U1 /\ R2 (P.add w D) U2:=by
 obtain ⟨U1,D1,s1,d1,r1⟩:=h1
 obtain ⟨U2,D2,s2,d2,r2⟩:=h2
 obtain ⟨n1,n2,n3⟩:=List.nodup_append.1 hn
 refine ⟨U1,U2,D1 ++ D2,s1,s2,fun c hc => ?_,m1 r1 (Keeps.addMono (fun b hb => List.mem_append_left _ hb) fun b hb hc => ?_),m2 r2 (Keeps.addMono (fun b hb => List.mem_append_right _ hb) fun b hb hc => ?_)⟩
 ·simp only [List.mem_append] at hc ⊢
  rcases hc with hc | hc
  ·exact ⟨.inl (d1 c hc).1,fun h => by rcases h with h | h; exact (d1 c hc).2 h; exact n3 c (d1 c hc).1 c (s2.subset h) rfl⟩
  ·exact ⟨.inr (d2 c hc).1,fun h => by rcases h with h | h; exact n3 c (s1.subset h) c (d2 c hc).1 rfl; exact (d2 c hc).2 h⟩
 ·rcases List.mem_append.1 hc with hc | hc
  ·exact hc
  ·exact absurd rfl (n3 b (s1.subset hb) b (d2 b hc).1)
 ·rcases List.mem_append.1 hc with hc | hc
  ·exact absurd rfl (n3 b (d1 b hc).1 b (s2.subset hb))
  ·exact hc
theorem RepL.coerce {α:Type} {w:World} {P:Prot} {R R':Prot -> α -> List Value -> List Nat -> Prop} (mono:∀ {P P' x cs T},R' P x cs T -> Keeps w P w P' T -> R' P' x cs T) :
  ∀ {xs:List α} {cs:List Value} {T:List Nat},RepL (R P) xs cs T -> T.Nodup -> (∀ x cs T',(∀ b ∈ T',b ∈ T) -> T'.Nodup -> R P x cs T' -> Coer (fun P T => R' P x cs T) w P T') -> Coer (fun P T => RepL (R' P) xs cs T) w P T
 | [],cs,T,h,_,_ => ⟨[],[],List.nil_sublist _,by simp,h.1,rfl⟩
 | x :: xs,_,_,⟨c1,c2,T1,T2,rfl,rfl,h1,h2⟩,hn,k => by
  obtain ⟨n1,n2,n3⟩:=List.nodup_append.1 hn
  have k1:=k _ _ _ (fun b hb => List.mem_append_left _ hb) n1 h1
  have k2:Coer (fun P T => RepL (R' P) xs c2 T) w P T2:=RepL.coerce (R:=R) (R':=R') mono h2 n2 (fun x cs T' hs => k x cs T' (fun b hb => List.mem_append_right _ (hs b hb)))
  obtain ⟨U1,U2,D,s1,s2,d,r1,r2⟩:=Coer.app k1 k2 hn (fun r hk => mono r hk) (fun r hk => RepL.mono r fun y cs T' hs r => mono r (hk.sub hs))
  exact ⟨U1 ++ U2,D,s1.append s2,d,c1,c2,U1,U2,rfl,rfl,r1,r2⟩
theorem Coer.all {R:Prot -> List Nat -> Prop} {w:World} {P:Prot} {T:List Nat} (h:R (P.add w T) []):Coer R w P T:=⟨[],T,List.nil_sublist _,fun c hc => ⟨hc,by simp⟩,h⟩
theorem Coer.none {R:Prot -> List Nat -> Prop} {w:World} {P:Prot} {T:List Nat} (h:R P T):Coer R w P T:=⟨T,[],List.Sublist.refl _,by simp,by rw [Prot.add_nil]; exact h⟩
theorem Aaw {w:World} {P:Prot} {T:List Nat}:∀ b ∈ T,∀ o v,w.cell? ⟨b,o,none⟩ = some v -> (P.add w T) b o:=fun b hb o v hv => .inr ⟨hb,v,hv⟩
mutual
theorem RepC.coerce {M:Program} {w:World} {P:Prot}:(t:Ty) -> ∀ {a b:Md} {x:t.den} {cs:List Value} {T:List Nat},RepC M t w P a x cs T -> t.le a b = true -> T.Nodup -> Coer (fun P T => RepC M t w P b x cs T) w P T
 | .int k,_,_,_,_,_,h,_,_ => .none (by simpa only [RepC] using h)
 | .bool,_,_,_,_,_,h,_,_ => .none (by simpa only [RepC] using h)
 | .str,_,_,_,_,_,h,_,_ => .none (by simpa only [RepC] using h)
 | .fn _ _,_,_,_,_,_,h,_,_ => .none (by simpa only [RepC] using h)
 | .tup _,_,_,_,_,_,h,_,_ => by simp only [RepC] at h
 | .st ts,_,_,_,_,_,h,hl,hn => by
  simp only [RepC] at h ⊢
  exact RepCs.coerce ts h (by simpa [Ty.le] using hl) hn
 | .sl e t,a,b,x,cs,T,h,hl,hn => by
  have frz:(Ty.sl e t).nh a = true -> Coer (fun P T => RepC M (.sl e t) w P .p x cs T) w P T:=fun h' => .all (RepC.freeze (Later.add w P T) _ h h' Aaw)
  cases b with
  | p => exact frz (by simpa [Ty.le] using hl)
  | s c d =>
   obtain ⟨T',D,h1,h2,h3⟩:=frz (by simpa [Ty.le] using hl)
   exact ⟨T',D,h1,h2,h3⟩
  | h =>
   simp only [RepC] at h ⊢
   obtain ⟨v,hv,h⟩:=h
   exact ⟨[],[],List.nil_sublist _,by simp,v,hv,rfl,h.one⟩
  | u c =>
   cases a with
   | p => simp [Ty.le] at hl
   | h => simp [Ty.le] at hl
   | s _ _ => simp [Ty.le] at hl
   | u c' =>
    simp only [RepC] at h ⊢
    obtain ⟨v,hv,h⟩:=h
    rcases h with ⟨h1,h2,h3⟩ | ⟨q,cap,cells,Tc,h1,h2,h3,h4,h5,h6,h7,rfl,h9⟩
    ·exact ⟨[],[],List.nil_sublist _,by simp,v,hv,.inl ⟨h1,rfl,h3⟩⟩
    ·obtain ⟨n1,n2⟩:=List.nodup_cons.1 hn
     obtain ⟨T',D,s1,d1,r1⟩:=RepL.coerce (R:=fun P => RepC M t w P c') (R':=fun P => RepC M t w P c) (fun r hk => RepC.mono t r hk) h5 n2
      (fun y cs T' hs hn r => RepC.coerce t r (by simpa [Ty.le] using hl) hn)
     refine ⟨q :: T',D,s1.cons_cons q,fun k hk => ⟨List.mem_cons_of_mem _ (d1 k hk).1,fun hm => ?_⟩,v,hv,.inr ⟨q,cap,cells,T',h1,h2,h3,h4,r1,h6,h7,rfl,fun o ho => ?_⟩⟩
     ·rcases List.mem_cons.1 hm with rfl | hm
      ·exact n1 (d1 k hk).1
      ·exact (d1 k hk).2 hm
     ·rcases ho with ho | ⟨ho,_⟩
      ·exact h9 o ho
      ·exact n1 (d1 q ho).1
 | .ptr t,a,b,x,cs,T,h,hl,hn => by
  have frz:(Ty.ptr t).nh a = true -> Coer (fun P T => RepC M (.ptr t) w P .p x cs T) w P T:=fun h' => .all (RepC.freeze (Later.add w P T) _ h h' Aaw)
  cases b with
  | p => exact frz (by simpa [Ty.le] using hl)
  | s c d =>
   obtain ⟨T',D,h1,h2,h3⟩:=frz (by simpa [Ty.le] using hl)
   exact ⟨T',D,h1,h2,h3⟩
  | h =>
   simp only [RepC] at h ⊢
   obtain ⟨v,hv,h⟩:=h
   exact ⟨[],[],List.nil_sublist _,by simp,v,hv,rfl,h.one⟩
  | u c =>
   cases a with
   | p => simp [Ty.le] at hl
   | h => simp [Ty.le] at hl
   | s _ _ => simp [Ty.le] at hl
   | u c' =>
    simp only [RepC] at h ⊢
    obtain ⟨v,hv,q,cells,Tc,e,h1,h4,h5,h7,rfl,h9⟩:=h
    obtain ⟨n1,n2⟩:=List.nodup_cons.1 hn
    obtain ⟨T',D,s1,d1,r1⟩:=RepC.coerce t h5 (by simpa [Ty.le] using hl) n2
    refine ⟨q :: T',D,s1.cons_cons q,fun k hk => ⟨List.mem_cons_of_mem _ (d1 k hk).1,fun hm => ?_⟩,v,hv,q,cells,T',e,h1,h4,r1,h7,rfl,fun o ho => ?_⟩
    ·rcases List.mem_cons.1 hm with rfl | hm
     ·exact n1 (d1 k hk).1
     ·exact (d1 k hk).2 hm
    ·rcases ho with ho | ⟨ho,_⟩
     ·exact h9 o ho
     ·exact n1 (d1 q ho).1
theorem RepCs.coerce {M:Program} {w:World} {P:Prot}:(ts:List Ty) -> ∀ {a b:Md} {x:Ty.dens ts} {cs:List Value} {T:List Nat},RepCs M ts w P a x cs T -> Ty.les ts a b = true -> T.Nodup -> Coer (fun P T => RepCs M ts w P b x cs T) w P T
 | [],_,_,_,_,_,h,_,_ => .none (by simpa only [RepCs] using h)
 | t :: ts,_,_,_,_,_,h,hl,hn => by
  simp only [RepCs] at h ⊢
  simp only [Ty.les,Bool.and_eq_true] at hl
  obtain ⟨c1,c2,T1,T2,rfl,rfl,h1,h2⟩:=h
  obtain ⟨n1,n2,n3⟩:=List.nodup_append.1 hn
  obtain ⟨U1,U2,D,s1,s2,d,r1,r2⟩:=Coer.app (RepC.coerce t h1 hl.1 n1) (RepCs.coerce ts h2 hl.2 n2) hn (fun r hk => RepC.mono t r hk) (fun r hk => RepCs.mono ts r hk)
  exact ⟨U1 ++ U2,D,s1.append s2,d,c1,c2,U1,U2,rfl,rfl,r1,r2⟩
end
mutual
theorem RepV.coerce {M:Program} {w:World} {P:Prot}:(t:Ty) -> ∀ {a b:Md} {x:t.den} {v:Value} {T:List Nat},RepV M t w P a x v T -> t.le a b = true -> T.Nodup -> Coer (fun P T => RepV M t w P b x v T) w P T
 | .tup ts,_,_,_,_,_,h,hl,hn => by
  simp only [RepV] at h ⊢
  obtain ⟨vs,hv,h⟩:=h
  obtain ⟨T',D,h1,h2,h3⟩:=RepVs.coerce ts h (by simpa [Ty.le] using hl) hn
  exact ⟨T',D,h1,h2,vs,hv,h3⟩
 | .int k,_,_,_,_,_,h,_,_ => .none (by simpa only [RepV] using h)
 | .bool,_,_,_,_,_,h,_,_ => .none (by simpa only [RepV] using h)
 | .str,_,_,_,_,_,h,_,_ => .none (by simpa only [RepV] using h)
 | .fn _ _,_,_,_,_,_,h,_,_ => .none (by simpa only [RepV] using h)
 | .st ts,_,_,_,_,_,h,hl,hn => by
  obtain ⟨h1,h2⟩:=Bb (.st ts) rfl h
  obtain ⟨T',D,k1,k2,k3⟩:=RepC.coerce _ h1 hl hn
  exact ⟨T',D,k1,k2,h2 ▸ Bh _ k3⟩
 | .sl e t,_,_,_,_,_,h,hl,hn => by
  obtain ⟨h1,h2⟩:=Bb (.sl e t) rfl h
  obtain ⟨T',D,k1,k2,k3⟩:=RepC.coerce _ h1 hl hn
  exact ⟨T',D,k1,k2,h2 ▸ Bh _ k3⟩
 | .ptr t,_,_,_,_,_,h,hl,hn => by
  obtain ⟨h1,h2⟩:=Bb (.ptr t) rfl h
  obtain ⟨T',D,k1,k2,k3⟩:=RepC.coerce _ h1 hl hn
  exact ⟨T',D,k1,k2,h2 ▸ Bh _ k3⟩
theorem RepVs.coerce {M:Program} {w:World} {P:Prot}:(ts:List Ty) -> ∀ {a b:Md} {x:Ty.dens ts} {vs:List Value} {T:List Nat},RepVs M ts w P a x vs T -> Ty.les ts a b = true -> T.Nodup -> Coer (fun P T => RepVs M ts w P b x vs T) w P T
 | [],_,_,_,_,_,h,_,_ => .none (by simpa only [RepVs] using h)
 | t :: ts,_,_,_,_,_,h,hl,hn => by
  simp only [RepVs] at h ⊢
  simp only [Ty.les,Bool.and_eq_true] at hl
  obtain ⟨v,r,T1,T2,rfl,rfl,h1,h2⟩:=h
  obtain ⟨n1,n2,n3⟩:=List.nodup_append.1 hn
  obtain ⟨U1,U2,D,s1,s2,d,r1,r2⟩:=Coer.app (RepV.coerce t h1 hl.1 n1) (RepVs.coerce ts h2 hl.2 n2) hn (fun r hk => RepV.mono t r hk) (fun r hk => RepVs.mono ts r hk)
  exact ⟨U1 ++ U2,D,s1.append s2,d,v,r,U1,U2,rfl,rfl,r1,r2⟩
end
end Go.Abs
