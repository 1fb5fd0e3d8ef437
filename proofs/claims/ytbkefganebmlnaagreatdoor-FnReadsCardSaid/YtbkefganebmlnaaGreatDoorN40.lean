/-
  The meta layer, part 40: functions whose text is not read: a text read as a number; a byte looked for in a text: as the reader's tables hold them. No condition.
-/
import Derived.Test.YtbkefganebmlnaaGreatDoorN38
import Derived.Shelf.Strconv.AtoiAll
import Derived.Shelf.Small.Strs
namespace Go.Abs
open Go.RowKit Go.Sort Go.Proofs
set_option linter.unusedVariables false
set_option linter.unusedSimpArgs false
/-- a fact that is kept out of sight -/
structure AsideP (p:Prop):Prop where
  out:p
/-- a variable that holds an error -/
def isErrV (vs:List Value):Prop:=∃ t p,vs = [Value.iface t p]
theorem errAt {M:Program} {w:World} {P:Prot} {nm:String} {g:Nat} {vs:List Value} (h:VarAt M w P nm vs) (hg:M.globalNamed nm = some g) (hv:isErrV vs):∃ t p,w.cell? ⟨g,0,none⟩ = some (.iface t p):=by
  obtain ⟨t,p,rfl⟩:=hv
  obtain ⟨g',c,e,h1,h2,-⟩:=h
  rw [hg] at h1
  cases h1
  refine ⟨t,p,?_⟩
  unfold World.cell?
  simp [h2]
theorem Aaj {M:Program} {w w':World} {nm:String} {k:IntKind} {zs:List Int} (h:Lib.TabIs M w nm k zs) (hb:Below w.heap.size w w'):Lib.TabIs M w' nm k zs:=by
  unfold Lib.TabIs World.var? at h ⊢
  cases hg:M.globalNamed nm with
  | none => rw [hg] at h; simp at h
  | some g =>
    rw [hg] at h
    simp only [Option.bind_some] at h ⊢
    have hlt:g < w.heap.size:=by
      rcases Nat.lt_or_ge g w.heap.size with h' | h'
      · exact h'
      · simp [Array.getElem?_eq_none h'] at h
    rw [hb.block g hlt]
    exact h
/-- a text read as a number, where it is the number's own text -/
def pI (s:List UInt8):Int × Bool:=match Lib.atoiAll s with
  | .ok n => if -100000 <= n /\ n <= 100000 /\ Lib.itoa n = s then (n,true) else (0,false)
  | _ => (0,false)
def parseF:Ty.dens [.str] -> Unit -> Option ((Int × Bool × Unit) × Unit):=fun x _ =>
  if (show List UInt8 from x.1).length <= 1099511627776 then some (((pI x.1).1,(pI x.1).2,()),()) else none
def parseS (m:Md):FSig:=⟨[.str],[],none,.p,.tup [.int .i64,.bool],m,parseF⟩
theorem Adi {M:Program} {f:FuncId} (hf:Has M f) {B:Base} {m:Md}
    (hc:∀ (s:List UInt8) (w:World) (P:Prot),BaseOk M B w P -> s.length <= 1099511627776 ->
      Calls M f #[.string ⟨s.toArray⟩] w fun e w' => e = .returned (.tuple #[.int .i64 (pI s).1,.bool (pI s).2]) /\ Below w.heap.size w w'):SigB B M f (parseS m):=by
  refine ⟨hf,fun w P xs ys vs caps Ti y hb hthere hv hTi hTp hcap hy => ?_⟩
  obtain ⟨s,u⟩:=xs
  change List UInt8 at s
  replace hv:ArgsR M w P .p none [.str] (s,u) vs Ti:=hv
  replace hcap:caps = []:=hcap
  replace hy:parseF (s,u) ys = some y:=hy
  simp only [ArgsR] at hv
  obtain ⟨v,r,rfl,h1,rfl,rfl⟩:=hv
  simp only [RepV] at h1
  obtain ⟨rfl,-⟩:=h1
  subst hcap
  unfold parseF at hy
  split at hy
  · rename_i hn
    cases hy
    refine (hc s w P hb hn).mono ?_
    rintro e w' ⟨rfl,hw⟩
    refine ⟨_,P,[],[],rfl,Me hw hthere,?_,?_,by simp,by simp⟩
    · show RepV M (.tup [.int .i64,.bool]) _ P m ((pI s).1,(pI s).2,()) _ []
      simp only [RepV]
      refine ⟨[.int .i64 (pI s).1,.bool (pI s).2],rfl,?_⟩
      simp only [RepVs,RepV]
      exact ⟨_,_,[],[],rfl,rfl,⟨rfl,rfl⟩,_,_,[],[],rfl,rfl,⟨rfl,rfl⟩,rfl,rfl⟩
    · show IoR M _ P .p [.str] none _ _ []
      simp only [IoR]
  · cases hy
/-- where a byte stands first in a text -/
def idxbF:Ty.dens [.str,.int .u8] -> Unit -> Option (Int × Unit):=fun x _ => some (Lib.indexByte (show List UInt8 from x.1) (show Int from x.2.1).toNat.toUInt8,())
def idxbS:FSig:=⟨[.str,.int .u8],[],none,.p,.int .i64,.p,idxbF⟩
theorem idxb_ok {M:Program} {f:FuncId} (hf:Has M f) {B:Base}
    (hc:∀ (s:ByteArray) (c:Int) (w:World),Calls M f #[.string s,.int .u8 c] w fun e w' => e = .returned (.int .i64 (Lib.indexByte s.data.toList c.toNat.toUInt8)) /\ w' = w):SigB B M f idxbS:=by
  refine ⟨hf,fun w P xs ys vs caps Ti y hb hthere hv hTi hTp hcap hy => ?_⟩
  obtain ⟨s,c,u⟩:=xs
  change List UInt8 at s
  change Int at c
  replace hv:ArgsR M w P .p none [.str,.int .u8] (s,c,u) vs Ti:=hv
  replace hcap:caps = []:=hcap
  replace hy:idxbF (s,c,u) ys = some y:=hy
  simp only [ArgsR] at hv
  obtain ⟨v,r,rfl,h1,v2,r2,rfl,h2,rfl,rfl⟩:=hv
  simp only [RepV] at h1 h2
  obtain ⟨rfl,-⟩:=h1
  obtain ⟨rfl,-⟩:=h2
  subst hcap
  cases hy
  refine (hc ⟨List.toArray s⟩ c w).mono ?_
  rintro e w' ⟨rfl,rfl⟩
  refine ⟨_,P,[],[],rfl,Me (Below.refl _ _) hthere,?_,?_,by simp,by simp⟩
  · show RepV M (.int .i64) _ P .p (Lib.indexByte s c.toNat.toUInt8) _ []
    simp [RepV]
  · show IoR M _ P .p [.str,.int .u8] none _ _ []
    simp only [IoR]
end Go.Abs
