/-
  The meta layer, part 42: functions whose text is not read: a text looked for in a text (of one byte), the names of rules, lists put together: as the reader's tables hold them. No condition.
-/
import Derived.Test.YtbkefganebmlnaaGreatDoorN40
namespace Go.Abs
open Go.RowKit Go.Sort Go.Proofs
set_option linter.unusedVariables false
set_option linter.unusedSimpArgs false
/-- where a text of one byte stands first in a text -/
def idx1F:Ty.dens [.str,.str] -> Unit -> Option (Int × Unit):=fun x _ => match (show List UInt8 from x.2.1) with
  | [c] => some (Lib.indexByte (show List UInt8 from x.1) c,())
  | _ => none
def idx1S:FSig:=⟨[.str,.str],[],none,.p,.int .i64,.p,idx1F⟩
theorem idx1_ok {M:Program} {f:FuncId} (hf:Has M f) {B:Base}
    (hc:∀ (s:ByteArray) (c:UInt8) (w:World),Calls M f #[.string s,.string ⟨#[c]⟩] w fun e w' => e = .returned (.int .i64 (Lib.indexByte s.data.toList c)) /\ w' = w):SigB B M f idx1S:=by
  refine ⟨hf,fun w P xs ys vs caps Ti y hb hthere hv hTi hTp hcap hy => ?_⟩
  obtain ⟨s,t,u⟩:=xs
  change List UInt8 at s
  change List UInt8 at t
  replace hv:ArgsR M w P .p none [.str,.str] (s,t,u) vs Ti:=hv
  replace hcap:caps = []:=hcap
  replace hy:idx1F (s,t,u) ys = some y:=hy
  simp only [ArgsR] at hv
  obtain ⟨v,r,rfl,h1,v2,r2,rfl,h2,rfl,rfl⟩:=hv
  simp only [RepV] at h1 h2
  obtain ⟨rfl,-⟩:=h1
  obtain ⟨rfl,-⟩:=h2
  subst hcap
  unfold idx1F at hy
  match t,hy with
  | [c],hy =>
    cases hy
    refine (hc ⟨List.toArray s⟩ c w).mono ?_
    rintro e w' ⟨rfl,rfl⟩
    refine ⟨_,P,[],[],rfl,Me (Below.refl _ _) hthere,?_,?_,by simp,by simp⟩
    · show RepV M (.int .i64) _ P .p (Lib.indexByte s c) _ []
      simp [RepV]
    · show IoR M _ P .p [.str,.str] none _ _ []
      simp only [IoR]
/-- the names of rules -/
def ruleOf (n:Int):List UInt8:=
  if n = 0 then [110,111,110,101] else if n = 1 then [108,105,110,107] else if n = 2 then [101,110,100] else if n = 3 then [116,105,109,101]
  else if n = 4 then [119,111,114,107] else if n = 5 then [112,97,105,114] else if n = 6 then [115,116,111,99,107] else []
def ruleF:Ty.dens [.int .i64] -> Unit -> Option (List UInt8 × Unit):=fun x _ => some (ruleOf x.1,())
def ruleS:FSig:=⟨[.int .i64],[],none,.p,.str,.p,ruleF⟩
theorem rule_ok {M:Program} {f:FuncId} (hf:Has M f) {B:Base}
    (hc:∀ (n:Int) (w:World),Calls M f #[.int .i64 n] w fun e w' => e = .returned (.string ⟨(ruleOf n).toArray⟩) /\ Below w.heap.size w w'):SigB B M f ruleS:=by
  refine ⟨hf,fun w P xs ys vs caps Ti y hb hthere hv hTi hTp hcap hy => ?_⟩
  obtain ⟨n,u⟩:=xs
  replace hv:ArgsR M w P .p none [.int .i64] (n,u) vs Ti:=hv
  replace hcap:caps = []:=hcap
  replace hy:ruleF (n,u) ys = some y:=hy
  simp only [ArgsR] at hv
  obtain ⟨v,r,rfl,h1,rfl,rfl⟩:=hv
  simp only [RepV] at h1
  obtain ⟨rfl,-⟩:=h1
  subst hcap
  cases hy
  refine (hc n w).mono ?_
  rintro e w' ⟨rfl,hw⟩
  refine ⟨_,P,[],[],rfl,Me hw hthere,?_,?_,by simp,by simp⟩
  · show RepV M .str _ P .p (ruleOf n) _ []
    simp [RepV]
  · show IoR M _ P .p [.int .i64] none _ _ []
    simp only [IoR]
/-- lists put together -/
def concF (e1 e2:TypeId):Ty.dens [.sl e1 (.sl e2 (.int .i64))] -> Unit -> Option (List Int × Unit):=fun x _ =>
  if (show List (List Int) from x.1).length <= 1000 /\ (∀ l ∈ (show List (List Int) from x.1),l.length <= 1000) then some ((show List (List Int) from x.1).flatten,()) else none
def concS (e1 e2:TypeId):FSig:=⟨[.sl e1 (.sl e2 (.int .i64))],[],none,.p,.sl e2 (.int .i64),Ty.all (.sl e2 (.int .i64)),concF e1 e2⟩
end Go.Abs
