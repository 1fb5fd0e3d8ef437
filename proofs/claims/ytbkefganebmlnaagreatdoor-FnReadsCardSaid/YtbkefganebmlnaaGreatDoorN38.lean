/-
  The meta layer, part 38: functions of the library whose text is not read: what their contracts say, as what the reader's tables hold: numbers as text, texts joined. No condition.
-/
import Derived.Test.YtbkefganebmlnaaGreatDoorN37
import Derived.Shelf.Strconv.Itoa3
import Derived.Shelf.Strings.OnBuilder
namespace Go.Abs
open Go.RowKit Go.Sort Go.Proofs
set_option linter.unusedVariables false
set_option linter.unusedSimpArgs false
theorem Me {w w':World} {P:Prot} (h:Below w.heap.size w w') (ht:There w P):PExt [] w P w' P:=
 ⟨h.os,h.tape,h.output,h.size,fun k hk _ => h.block k hk,fun _ hk => by simp at hk,fun _ _ hp => hp,fun _ _ hp => .inl hp,fun b o hp => by
  obtain ⟨v,hv⟩:=ht b o hp
  exact ⟨v,by rw [World.cell?_of_block (h.block b (World.block_lt_of_cell? w ⟨b,o,none⟩ hv))]; exact hv⟩⟩
theorem Yd (w:World) (k:Nat) (os:Array Obj):Below w.heap.size w (grow (w.drewN k) os):=
 ⟨by simp [grow,World.drewN],by simp [grow,World.drewN],by simp [grow,World.drewN],by simp [grow,World.drewN],fun i hi => by
  have:(grow (w.drewN k) os).heap[i]? = (w.drewN k).heap[i]?:=heap_grow_old (w.drewN k) os (by simpa [World.drewN] using hi)
  rw [this]
  simp [World.drewN]⟩
theorem Aba {M:Program} {w:World} {P:Prot} {nm:String} {k:IntKind} {zs:List Int} (h:VarAt M w P nm (zs.map fun z => Value.int k z)):Lib.TabIs M w nm k zs:=by
 obtain ⟨g,c,e,h1,h2,-⟩:=h
 unfold Lib.TabIs World.var?
 rw [h1]
 simp only [Option.bind_some,h2]
theorem Aad {M:Program} {w:World} {nm:String} {g:Nat} {k:IntKind} {zs:List Int} (h:Lib.TabIs M w nm k zs) (hg:M.globalNamed nm = some g) (h0:0 < zs.length):VarAt M w (AllP w) nm (zs.map fun z => Value.int k z):=by
 have hc:=h.cell hg 0 h0
 unfold Lib.TabIs World.var? at h
 rw [hg] at h
 simp only [Option.bind_some] at h
 split at h
 ·rename_i cs e c hcs
  cases h
  exact ⟨g,_,_,hg,hcs,_,hc⟩
 ·cases h
theorem Se {M:Program} {w:World} {nm nm':String} {k:IntKind} {zs:List Int} (h:Lib.TabIs M w nm k zs) (e:nm = nm'):Lib.TabIs M w nm' k zs:=e ▸ h
def itoaF:Ty.dens [.int .i64] -> Unit -> Option (List UInt8 × Unit):=fun x _ =>
 if -9223372036854775808 <= (show Int from x.1) /\ (show Int from x.1) <= 9223372036854775807 then some (Lib.itoa x.1,()) else none
def itoaS:FSig:=⟨[.int .i64],[],none,.p,.str,.p,itoaF⟩
theorem itoa_ok {M:Program} {f:FuncId} (hf:Has M f) {B:Base} {nm:String} (ht:∀ w P,BaseOk M B w P -> Lib.TabIs M w nm .u64 Lib.pow10Tab)
  (hc:∀ (n:Int),-9223372036854775808 <= n -> n <= 9223372036854775807 -> ∀ w:World,Lib.TabIs M w nm .u64 Lib.pow10Tab ->
   Calls M f #[.int .i64 n] w fun e w' => e = .returned (.string ⟨(Lib.itoa n).toArray⟩) /\ ∃ k os,w' = grow (w.drewN k) os):SigB B M f itoaS:=by
 refine ⟨hf,fun w P xs ys vs caps Ti y hb hthere hv hTi hTp hcap hy => ?_⟩
 obtain ⟨n,u⟩:=xs
 replace hv:ArgsR M w P .p none [.int .i64] (n,u) vs Ti:=hv
 replace hcap:caps = []:=hcap
 replace hy:itoaF (n,u) ys = some y:=hy
 simp only [ArgsR] at hv
 obtain ⟨v,r,rfl,h1,rfl,rfl⟩:=hv
 simp only [RepV] at h1
 obtain ⟨rfl,-⟩:=h1
 subst hcap
 unfold itoaF at hy
 split at hy
 ·rename_i hn
  cases hy
  refine (hc n hn.1 hn.2 w (ht w P hb)).mono ?_
  rintro e w' ⟨rfl,k,os,rfl⟩
  refine ⟨_,P,[],[],rfl,Me (Yd w k os) hthere,?_,?_,by simp,by simp⟩
  ·show RepV M .str _ P .p (Lib.itoa n) _ []
   simp [RepV]
  ·show IoR M _ P .p [.int .i64] none _ _ []
   simp only [IoR]
 ·cases hy
def itoaF0:Ty.dens [.int .i64] -> Unit -> Option (List UInt8 × Unit):=fun x _ =>
 if 0 <= (show Int from x.1) /\ (show Int from x.1) < 100 then some (Lib.itoa x.1,()) else none
def itoaS0:FSig:=⟨[.int .i64],[],none,.p,.str,.p,itoaF0⟩
theorem Ai7 {M:Program} {f:FuncId} (hf:Has M f) {B:Base}
  (hc:∀ (i:Nat),i < 100 -> ∀ w:World,Calls M f #[.int .i64 i] w fun e w' => e = .returned (.string ⟨(Lib.decDigits i).toArray⟩) /\ w' = w):SigB B M f itoaS0:=by
 refine ⟨hf,fun w P xs ys vs caps Ti y hb hthere hv hTi hTp hcap hy => ?_⟩
 obtain ⟨n,u⟩:=xs
 replace hv:ArgsR M w P .p none [.int .i64] (n,u) vs Ti:=hv
 replace hcap:caps = []:=hcap
 replace hy:itoaF0 (n,u) ys = some y:=hy
 simp only [ArgsR] at hv
 obtain ⟨v,r,rfl,h1,rfl,rfl⟩:=hv
 simp only [RepV] at h1
 obtain ⟨rfl,-⟩:=h1
 subst hcap
 unfold itoaF0 at hy
 split at hy
 ·rename_i hn
  cases hy
  replace hn:0 <= (show Int from n) /\ (show Int from n) < 100:=hn
  obtain ⟨i,rfl⟩:∃ i:Nat,(show Int from n) = (i:Int):=⟨(show Int from n).toNat,by omega⟩
  have hi:i < 100:=by have:=hn.2; simp only at this; omega
  refine (hc i hi w).mono ?_
  rintro e w' ⟨rfl,rfl⟩
  refine ⟨_,P,[],[],rfl,Me (Below.refl _ _) hthere,?_,?_,by simp,by simp⟩
  ·show RepV M .str _ P .p (Lib.itoa (i:Int)) _ []
   rw [Lib.itoa_nonneg]
   simp [RepV]
  ·show IoR M _ P .p [.int .i64] none _ _ []
   simp only [IoR]
 ·cases hy
def nameOf (n:Int):List UInt8:=
 if n = 1 then [111,112,116,105,109,97,108] else if n = 2 then [105,110,102,101,97,115,105,98,108,101]
 else if n = 3 then [102,101,97,115,105,98,108,101] else if n = 4 then [117,110,107,110,111,119,110] else []
def nameF:Ty.dens [.int .i64] -> Unit -> Option (List UInt8 × Unit):=fun x _ => some (nameOf x.1,())
def nameS:FSig:=⟨[.int .i64],[],none,.p,.str,.p,nameF⟩
theorem name_ok {M:Program} {f:FuncId} (hf:Has M f) {B:Base}
  (hc:∀ (n:Int) (w:World),Calls M f #[.int .i64 n] w fun e w' => e = .returned (.string ⟨(nameOf n).toArray⟩) /\ Below w.heap.size w w'):SigB B M f nameS:=by
 refine ⟨hf,fun w P xs ys vs caps Ti y hb hthere hv hTi hTp hcap hy => ?_⟩
 obtain ⟨n,u⟩:=xs
 replace hv:ArgsR M w P .p none [.int .i64] (n,u) vs Ti:=hv
 replace hcap:caps = []:=hcap
 replace hy:nameF (n,u) ys = some y:=hy
 simp only [ArgsR] at hv
 obtain ⟨v,r,rfl,h1,rfl,rfl⟩:=hv
 simp only [RepV] at h1
 obtain ⟨rfl,-⟩:=h1
 subst hcap
 cases hy
 refine (hc n w).mono ?_
 rintro e w' ⟨rfl,hw⟩
 refine ⟨_,P,[],[],rfl,Me hw hthere,?_,?_,by simp,by simp⟩
 ·show RepV M .str _ P .p (nameOf n) _ []
  simp [RepV]
 ·show IoR M _ P .p [.int .i64] none _ _ []
  simp only [IoR]
def joinF (e:TypeId):Ty.dens [.sl e .str,.str] -> Unit -> Option (List UInt8 × Unit):=fun x _ =>
 if List.length (show List (List UInt8) from x.1) <= 140737488355328 /\ (Lib.join (show List (List UInt8) from x.1) (show List UInt8 from x.2.1)).length <= 140737488355328 then some (Lib.join (show List (List UInt8) from x.1) (show List UInt8 from x.2.1),()) else none
def joinS (e:TypeId):FSig:=⟨[.sl e .str,.str],[],none,.p,.str,.p,joinF e⟩
theorem T9 {M:Program} {w:World} {P:Prot}:∀ {xs:List (List UInt8)} {cells:List Value},RepL (RepC M .str w P .p) xs cells [] -> cells = xs.map fun x => Value.string ⟨List.toArray x⟩
 | [],cells,h => h.1
 | x :: xs,cells,h => by
  obtain ⟨c1,c2,T1,T2,rfl,hT,h1,h2⟩:=h
  have hT:=List.append_eq_nil_iff.1 hT.symm
  obtain ⟨rfl,rfl⟩:=hT
  simp only [RepC] at h1
  obtain ⟨rfl,-⟩:=h1
  rw [T9 h2]
  rfl
theorem Ac2 (xs:List (List UInt8)):(xs.map fun x => (⟨List.toArray x⟩:ByteArray)).map (·.data.toList) = xs:=by
 rw [List.map_map]
 conv => rhs; rw [<- List.map_id xs]
 rfl
theorem join_ok {M:Program} {f:FuncId} (hf:Has M f) {B:Base} {e:TypeId}
  (h0:∀ (a:Option Addr) (c:Nat) (sep:ByteArray) (w:World),Calls M f #[.slice a 0 c,.string sep] w fun e w' => e = .returned (.string ⟨#[]⟩) /\ w' = w)
  (hc:∀ (bk o c:Nat) (xs:List ByteArray) (sep:ByteArray) (w:World),(∀ (j:Nat) x,xs[j]? = some x -> w.cell? ⟨bk,o + j,none⟩ = some (.string x)) -> bk < w.heap.size -> xs.length <= 140737488355328 -> xs.length <= c ->
   (Lib.join (xs.map (·.data.toList)) sep.data.toList).length <= 140737488355328 ->
   Calls M f #[.slice (some ⟨bk,o,none⟩) xs.length c,.string sep] w fun e w' => e = .returned (.string ⟨(Lib.join (xs.map (·.data.toList)) sep.data.toList).toArray⟩) /\ Below w.heap.size w w'):SigB B M f (joinS e):=by
 refine ⟨hf,fun w P x ys vs caps Ti y hb hthere hv hTi hTp hcap hy => ?_⟩
 obtain ⟨xs,sep,u⟩:=x
 change List (List UInt8) at xs
 change List UInt8 at sep
 replace hv:ArgsR M w P .p none [.sl e .str,.str] (xs,sep,u) vs Ti:=hv
 replace hcap:caps = []:=hcap
 replace hy:joinF e (xs,sep,u) ys = some y:=hy
 simp only [ArgsR] at hv
 obtain ⟨v,r,rfl,h1,v2,r2,rfl,h2,rfl,rfl⟩:=hv
 simp only [RepV] at h2
 obtain ⟨rfl,-⟩:=h2
 subst hcap
 replace h1:RepV M (.sl e .str) w P .p xs v []:=h1
 simp only [RepV] at h1
 unfold joinF at hy
 split at hy
 ·rename_i hn
  cases hy
  obtain ⟨n1,n2⟩:=hn
  have fin:∀ (e0:Ending) (w':World),e0 = .returned (Value.string ⟨(Lib.join xs sep).toArray⟩) -> Below w.heap.size w w' -> ∃ u P' Tr Tq,e0 = .returned u /\ PExt [] w P w' P' /\ RepV M .str w' P' .p (Lib.join xs sep) u Tr /\ IoR M w' P' .p [.sl e .str,.str] none () ([v,Value.string ⟨List.toArray sep⟩]) Tq /\
   (Tr ++ Tq).Nodup /\ ∀ b ∈ Tr ++ Tq,b ∈ ([]:List Nat) \/ (w.heap.size <= b /\ b < w'.heap.size):=fun e0 w' he hw => by
   subst he
   refine ⟨_,P,[],[],rfl,Me hw hthere,?_,?_,by simp,by simp⟩
   ·simp [RepV]
   ·simp only [IoR]
  obtain ⟨-,⟨rfl,a,rfl⟩ | ⟨b,off,cap,cells,rfl,k1,k2,k3,k4⟩⟩:=h1
  ·refine (h0 a 0 _ w).mono ?_
   rintro e0 w' ⟨h1,rfl⟩
   exact fin e0 _ h1 (Below.refl _ _)
  ·have hcs:=T9 k2
   subst hcs
   have hlen:(xs.map fun x => (⟨List.toArray x⟩:ByteArray)).length = xs.length:=by simp
   by_cases hx:xs = []
   ·subst hx
    refine (h0 _ cap _ w).mono ?_
    rintro e0 w' ⟨h1,rfl⟩
    exact fin e0 _ h1 (Below.refl _ _)
   ·have hbk:b < w.heap.size:=by
     obtain ⟨x0,r0,rfl⟩:=List.exists_cons_of_ne_nil hx
     exact World.block_lt_of_cell? w ⟨b,off + 0,none⟩ (k4 0 _ rfl).1
    have:=hc b off cap (xs.map fun x => (⟨List.toArray x⟩:ByteArray)) ⟨List.toArray sep⟩ w (fun j x hj => by
     rw [List.getElem?_map] at hj
     obtain ⟨y,hy,rfl⟩:=Option.map_eq_some_iff.1 hj
     exact (k4 j (.string ⟨List.toArray y⟩) (by rw [List.getElem?_map,hy]; rfl)).1) hbk (by rw [hlen]; exact n1) (by rw [hlen]; exact k1) (by rw [Ac2]; exact n2)
    rw [hlen,Ac2] at this
    refine this.mono ?_
    rintro e0 w' ⟨h1,h2⟩
    exact fin e0 w' h1 h2
 ·cases hy
end Go.Abs
