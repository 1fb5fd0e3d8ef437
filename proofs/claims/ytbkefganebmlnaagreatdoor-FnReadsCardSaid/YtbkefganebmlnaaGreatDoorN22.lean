/-
  The meta layer, part 22: the reading of a region whose order is left open.
-/
import Derived.Test.YtbkefganebmlnaaGreatDoorN21
namespace Go.Abs
open Go.RowKit
set_option linter.unusedVariables false
set_option linter.unusedSimpArgs false
def hangs (ds U:List Nat) (e:Ent):Bool:=ds.any (fun d => e.on d) || U.any fun i => e.onT i
theorem Ab7 {ds U:List Nat} {e:Ent} (h:hangs ds U e = false):(∀ d ∈ ds,e.on d = false) /\ ∀ i ∈ U,e.onT i = false:=by
 unfold hangs at h
 simp only [Bool.or_eq_false_iff,List.any_eq_false,Bool.not_eq_true] at h
 exact ⟨h.1,h.2⟩
structure UsI where
 us:List Nat
 dl:List Nat
 ad:List Nat
 dd:List Nat
 e:Ent
def onDst (dst:Option Nat) (e:Ent):Bool:=match dst with | some d => e.on d | none => false
def adOf (acc:List Info) (dst:Option Nat):List Nat:=(acc.filter fun q => onDst dst q.2.2.2.1).flatMap (·.2.2.1)
def ddOf (ad us:List Nat) (dst:Option Nat) (Γ:Ctx):List Nat:=ad.filter fun t => !us.contains t && dst != some t && onDst dst (Γ.get t).1
def freeB (us dd:List Nat) (dst:Option Nat) (Γ:Ctx):Bool:=Γ.all fun p => us.contains p.1 || dd.contains p.1 || dst == some p.1 || !onDst dst p.2
theorem get_mem:∀ {Γ:Ctx} {t:Nat},t ∈ keys Γ -> (t,(Γ.get t).1) ∈ Γ
 | [],t,h => by cases h
 | p :: Γ,t,h => by
  by_cases e:p.1 = t
  ·simp only [Ctx.get,if_pos e]
   subst e
   exact List.mem_cons_self
  ·simp only [Ctx.get,if_neg e]
   have h':t ∈ keys Γ:=by
    rcases List.mem_cons.1 (show t ∈ p.1 :: keys Γ from h) with h | h
    ·exact absurd h.symm e
    ·exact h
   exact List.mem_cons_of_mem _ (get_mem h')
def usOf (Tb:Tab) (ops:Array Oper) (Z ds U:List Nat) (acc:List Info) (Γ:Ctx) (o:Oper):Option UsI:=
 match runs ops Γ.get o with
 | some true => match xop Tb [] Γ.get o with
  | some r0 =>
   let dl:=(acc.filter fun q => r0.us.any fun p => q.2.2.2.1.onT p.1).flatMap (·.2.2.1)
   match xop Tb dl Γ.get o with
   | some r =>
    let us:=r.us.map (·.1)
    let ad:=adOf acc o.dst
    let dd:=ddOf ad us o.dst Γ
    if us.all (fun i => U.contains i) && U.all (fun i => !r.e.onT i || (rdZ Z ops Γ.get o).contains i) && ds.all (fun d => !r.e.on d || (rdZ Z ops Γ.get o).contains d) &&
      acc.all (fun q => q.2.2.1.all (fun t => dl.contains t) || us.all fun i => !q.2.2.2.1.onT i) && dd.all (fun t => us.all fun i => !(Γ.get t).1.onT i) && freeB us dd o.dst Γ && (r.us.all (fun p => !Z.contains p.1 || sameK p.2.1 (Γ.get p.1).1) && dd.all (fun t => !Z.contains t) && o.dst.toList.all fun t => !Z.contains t) then some ⟨us,dl,ad,dd,r.e⟩ else none
   | none => none
  | none => none
 | _ =>
  let ad:=adOf acc o.dst
  let dd:=ddOf ad [] o.dst Γ
  if freeB [] dd o.dst Γ && (dd.all (fun t => !Z.contains t) && o.dst.toList.all fun t => !Z.contains t) then some ⟨[],[],ad,dd,.und⟩ else none
def kbSlot (gs:List Nat) (Γ:Ctx) (o:Oper):Option ((d:Nat) × { p:Env Γ -> Bool // o.dst = some d /\ ∃ m,Γ.get d = ⟨.val .bool m,p⟩ }):=
 match ho:o.dst with
 | some d => if gs.contains d then
   match h:Γ.get d with
   | ⟨.val .bool m,p⟩ => some ⟨d,p,ho ▸ rfl,m,h⟩
   | _ => none
  else none
 | none => none
def dops (Tb:Tab) (n:Nat) (ops:Array Oper) (Z ds U ks gs:List Nat):List Oper -> List Info -> (Γ:Ctx) -> Option (CR Γ)
 | [],_,Γ =>
  let Δ:=joinC ks (fun k => (Γ.get k).1) (fun k => (Γ.get k).1)
  match weakTo Γ.get Δ with
  | some ρ => some (CR.pure Δ ρ)
  | none => none
 | o :: l,acc,Γ => match usOf Tb ops Z ds U acc Γ o with
  | some ⟨us,dl,ad,dd,e⟩ => match cop Tb n dl (keys Γ) ops o Γ with
   | some r1 =>
    let rd:=rdZ Z ops Γ.get o ++ dl ++ ad
    let wr:=wrX o (us ++ dd ++ o.dst.toList)
    if (o.dst.toList.all fun d => ds.contains d) && (o.after.all fun e => !binds e || decide (e.on < acc.length)) && tiedB (predsOf o) acc 0 acc rd wr then
     match kbSlot gs r1.Δ o with
     | some ⟨d,p,_⟩ =>
      match dops Tb n ops Z ds U ks gs l (acc ++ [(rd,wr,o.dst.toList,e,predsOf o)]) (setKb r1.Δ d true).Γ,dops Tb n ops Z ds U ks gs l (acc ++ [(rd,wr,o.dst.toList,e,predsOf o)]) (setKb r1.Δ d false).Γ with
      | some r,some r' =>
       let Δ:=joinC ks (fun k => (r.Δ.get k).1) (fun k => (r'.Δ.get k).1)
       match weakTo r.Δ.get Δ,weakTo r'.Δ.get Δ with
       | some ρ,some ρ' => some (r1.seq (CR.split p (setKb r1.Δ d true).ρ (setKb r1.Δ d false).ρ r r' Δ ρ ρ'))
       | _,_ => none
      | _,_ => none
     | none => match dops Tb n ops Z ds U ks gs l (acc ++ [(rd,wr,o.dst.toList,e,predsOf o)]) r1.Δ with
      | some r2 => some (r1.seq r2)
      | none => none
    else none
   | none => none
  | none => none
def dstsOf (ops:Array Oper):List Nat:=ops.toList.filterMap (·.dst)
def gsOf (ops:Array Oper):List Nat:=ops.toList.flatMap fun o => guardOf ops o ++ match o.op with | .pick (.tmp t) _ _ => [t] | _ => []
def takesOf (Tb:Tab) (n:Nat) (ops:Array Oper) (gs:List Nat):List Oper -> (Γ:Ctx) -> List Nat
 | [],_ => []
 | o :: l,Γ =>
  let q:=match cop Tb n [] (keys Γ) ops o Γ with
   | some r1 => some (([]:List Nat),r1)
   | none => match cop Tb n (keys Γ) (keys Γ) ops o Γ with
    | some r1 => some (keys Γ,r1)
    | none => none
  match q with
  | some (dl,r1) =>
   let us:=match runs ops Γ.get o with
    | some true => (match xop Tb dl Γ.get o with | some r => r.us.map (·.1) | none => [])
    | _ => []
   match kbSlot gs r1.Δ o with
   | some ⟨d,_,_⟩ => us ++ takesOf Tb n ops gs l (setKb r1.Δ d true).Γ ++ takesOf Tb n ops gs l (setKb r1.Δ d false).Γ
   | none => us ++ takesOf Tb n ops gs l r1.Δ
  | none => []
def dedup:List Nat -> List Nat
 | [] => []
 | a :: l => if l.contains a then dedup l else a :: dedup l
def zOf (ds U:List Nat) (Γ:Ctx):List Nat:=U.filter fun t => !ds.contains t && (kindE (Γ.get t).1).isSome
def cany (Tb:Tab) (n:Nat) (ops:Array Oper) (ks:List Nat) (Γ:Ctx):Option (CR Γ):=
 let ds:=dstsOf ops
 let U:=dedup (takesOf Tb n ops (gsOf ops) ops.toList Γ)
 let Γ':=Γ.filter fun p => !hangs ds U p.2
 match weakTo Γ.get Γ' with
 | some ρ => match dops Tb n ops [] ds U ks (gsOf ops) ops.toList [] Γ' with
  | some r => some (CR.pre ρ r)
  | none => match dops Tb n ops (zOf ds U Γ') ds U ks (gsOf ops) ops.toList [] Γ' with
   | some r => some (CR.pre ρ r)
   | none => none
 | none => none
theorem Aip {d:Nat} {e:Ent}:onDst (some d) e = e.on d:=rfl
theorem Ade {acc:List Info} {dst:Option Nat}:∀ q ∈ acc,∀ t ∈ q.2.2.1,∀ d,dst = some d -> q.2.2.2.1.on d = true -> t ∈ adOf acc dst:=fun q hq t ht d hd hon => by
 unfold adOf
 refine List.mem_flatMap.2 ⟨q,List.mem_filter.2 ⟨hq,?_⟩,ht⟩
 rw [hd]
 exact hon
theorem Vs {ad us:List Nat} {dst:Option Nat} {Γ:Ctx} {s:Env Γ}:DropD dst us (ddOf ad us dst Γ) (dyn Γ s):=fun t ht => by
 have h:=(List.mem_filter.1 ht).2
 simp only [Bool.and_eq_true,Bool.not_eq_true',bne_iff_ne,ne_eq] at h
 obtain ⟨⟨h1,h2⟩,h3⟩:=h
 cases hd:dst with
 | none => rw [hd] at h3; cases h3
 | some d =>
  rw [hd] at h2 h3
  exact ⟨by simpa using h1,d,rfl,fun e => h2 (by rw [e]),h3⟩
theorem Ada {us dd:List Nat} {dst:Option Nat} {Γ:Ctx} (h:freeB us dd dst Γ = true) (s:Env Γ):FreeD dst (us ++ dd ++ dst.toList) (dyn Γ s):=by
 intro t ht d hd
 by_cases hk:t ∈ keys Γ
 ·have:=List.all_eq_true.1 h _ (get_mem hk)
  simp only [Bool.or_eq_true,beq_iff_eq,Bool.not_eq_true'] at this
  simp only [List.mem_append,not_or] at ht
  rcases this with ((h1 | h1) | h1) | h1
  ·exact absurd (by simpa using h1) ht.1.1
  ·exact absurd (by simpa using h1) ht.1.2
  ·exact absurd (by rw [h1]; simp) ht.2
  ·rw [hd] at h1
   exact h1
 ·rw [Vh s hk]
  rfl
theorem opW_of {Tb:Tab} {n:Nat} {ops:Array Oper} {Z ds U:List Nat} {acc:List Info} {o:Oper} {Γ:Ctx} {us dl ad dd:List Nat} {e:Ent} (hu:usOf Tb ops Z ds U acc Γ o = some ⟨us,dl,ad,dd,e⟩) {r1:CR Γ} (hc:cop Tb n dl (keys Γ) ops o Γ = some r1) {s:Env Γ} {s1:Env r1.Δ} (hf:r1.f s = some s1) :
  Drops ops Z ds U dl ad dd acc o (dyn Γ s) us e /\ ∃ W,OpW Tb n ops dl dd o (dyn Γ s) us e W /\ KeepZ Z (dyn Γ s) W /\ app (dyn Γ s) W = dyn r1.Δ s1 /\
   ∀ d m b,o.dst = some d -> dyn r1.Δ s1 d = ⟨.val .bool m,fun _ => b⟩ -> ∃ W',OpW Tb n ops dl dd o (dyn Γ s) us e W' /\ KeepZ Z (dyn Γ s) W' /\ app (dyn Γ s) W' = put (dyn r1.Δ s1) d ⟨.kb b,fun _ => ()⟩:=by
 have hrn:=Ac9 s ops Γ.get o
 unfold cop at hc
 split at hc
 ·rename_i h1
  have h1':runs ops (dyn Γ s) o = some true:=hrn.trans h1
  split at hc
  ·rename_i hk
   obtain ⟨q,y,h2,h3,h4,h5⟩:=Zw hc hf h1'
   unfold usOf at hu
   rw [h1] at hu
   simp only at hu
   split at hu
   ·rename_i r0 hx0
    split at hu
    ·rename_i r hx
     split at hu
     ·rename_i hyes
      cases hu
      have hxn:=xop_nat s Tb ((acc.filter fun q => r0.us.any fun p => q.2.2.2.1.onT p.1).flatMap (·.2.2.1)) Γ.get o
      rw [hx] at hxn
      rw [show xop Tb _ (dyn Γ s) o = some (r.at s) from hxn] at h2
      cases h2
      simp only [Bool.and_eq_true] at hyes
      obtain ⟨⟨⟨⟨⟨⟨y1,y2⟩,y3⟩,y4⟩,y5⟩,y6⟩,⟨y7,y8⟩,y9⟩:=hyes
      have hus:(r.at s).us.map (·.1) = r.us.map (·.1):=by
       unfold Res.at
       rw [List.map_map]
       rfl
      have hnon:∀ t,t ∉ keys Γ -> dyn Γ s t = Ex.non:=fun t ht => Vh s ht
      have hfree:=Aib (dd:=ddOf (adOf acc o.dst) (r.us.map (·.1)) o.dst Γ) h3 hnon
      have hfreeD:FreeD o.dst ((r.at s).us.map (·.1) ++ ddOf (adOf acc o.dst) (r.us.map (·.1)) o.dst Γ ++ o.dst.toList) (dyn Γ s):=by rw [hus]; exact Ada y6 s
      have hdrop:DropD o.dst ((r.at s).us.map (·.1)) (ddOf (adOf acc o.dst) (r.us.map (·.1)) o.dst Γ) (dyn Γ s):=by rw [hus]; exact Vs
      have hw:∀ p ∈ (r.at s).ws y,∀ i,p.2.1.on i = false:=fun p hp i => by
       obtain ⟨q,hq,rfl⟩:=Res.mem_ws hp
       exact Ent.own_on (chk_us h3 q hq).2 i
      have hfr:∀ x:Ex Unit,updF (dyn Γ s) o.dst x ((r.at s).ws y) = app (dyn Γ s) ((r.at s).ws y ++ nonW (ddOf (adOf acc o.dst) (r.us.map (·.1)) o.dst Γ) ++ o.dst.toList.map fun d => (d,x)):=Sp hw (by rw [Res.wdom_ws]; exact hfreeD) (by rw [Res.wdom_ws]; exact hdrop)
      have hop1:OpW Tb n ops _ (ddOf (adOf acc o.dst) (r.us.map (·.1)) o.dst Γ) o (dyn Γ s) ((r.at s).us.map (·.1)) (r.at s).e ((r.at s).ws y ++ nonW (ddOf (adOf acc o.dst) (r.us.map (·.1)) o.dst Γ) ++ o.dst.toList.map fun d => (d,⟨(r.at s).e,fun _ => (r.at s).f () y⟩)):=.run (r.at s) y h1' hxn (chk_nil h3) h4 hfree hfreeD hdrop
      rw [hus] at hop1
      have hkeep:∀ V:WS,(∀ p ∈ V,p.1 ∈ o.dst.toList) -> KeepZ Z (dyn Γ s) ((r.at s).ws y ++ nonW (ddOf (adOf acc o.dst) (r.us.map (·.1)) o.dst Γ) ++ V):=fun V hV p hp hz => by
       rcases List.mem_append.1 hp with hp | hp
       ·rcases List.mem_append.1 hp with hp | hp
        ·obtain ⟨q,hq,rfl⟩:=Res.mem_ws hp
         obtain ⟨q0,hq0,rfl⟩:=List.mem_map.1 (show q ∈ r.us.map _ from hq)
         have:=List.all_eq_true.1 y7 q0 hq0
         simp only [Bool.or_eq_true,Bool.not_eq_true'] at this
         rcases this with h | h
         ·have hz':Z.contains q0.1 = true:=by simpa using hz
          rw [hz'] at h; cases h
         ·exact Agj h
        ·obtain ⟨t,ht,rfl⟩:=List.mem_map.1 hp
         have:=List.all_eq_true.1 y8 t ht
         have hz':Z.contains t = true:=by simpa using hz
         rw [hz'] at this; cases this
       ·have:=List.all_eq_true.1 y9 p.1 (hV p hp)
        have hz':Z.contains p.1 = true:=by simpa using hz
        rw [hz'] at this; cases this
      refine ⟨⟨fun i hi => ?_,fun i hi hon => ?_,fun d hd hon => ?_,fun q hq t ht i hi hon => ?_,Ade,fun t ht => (List.mem_filter.1 ht).1,fun t ht i hi => ?_⟩,_,hop1,hkeep _ (fun p hp => by obtain ⟨d,hd,rfl⟩:=List.mem_map.1 hp; exact hd),?_,fun d m b hd hb => ?_⟩
      ·simpa using List.all_eq_true.1 y1 i hi
      ·have:=List.all_eq_true.1 y2 i hi
       rw [show r.e.onT i = true from hon] at this
       show i ∈ rdZ Z ops Γ.get o
       simpa using this
      ·have:=List.all_eq_true.1 y3 d hd
       rw [show r.e.on d = true from hon] at this
       show d ∈ rdZ Z ops Γ.get o
       simpa using this
      ·have:=List.all_eq_true.1 y4 q hq
       simp only [Bool.or_eq_true,List.all_eq_true,Bool.not_eq_true'] at this
       rcases this with h | h
       ·simpa using h t ht
       ·have:=h i hi
        rw [hon] at this; cases this
      ·have:=List.all_eq_true.1 y5 t ht
       have:=List.all_eq_true.1 this i hi
       show (Γ.get t).1.onT i = false
       simpa using this
      ·rw [h5,hfr]
      ·have hval:updF (dyn Γ s) o.dst ⟨(r.at s).e,fun _ => (r.at s).f () y⟩ ((r.at s).ws y) d = ⟨(r.at s).e,fun _ => (r.at s).f () y⟩:=by
        unfold updF
        rw [hd]
        show put _ d _ d = _
        unfold put
        rw [if_pos rfl]
       have hxe:(⟨(r.at s).e,fun _ => (r.at s).f () y⟩:Ex Unit) = ⟨.val .bool m,fun _ => b⟩:=by
        rw [h5,hval] at hb
        exact hb
       have hop2:OpW Tb n ops _ (ddOf (adOf acc o.dst) (r.us.map (·.1)) o.dst Γ) o (dyn Γ s) ((r.at s).us.map (·.1)) (r.at s).e ((r.at s).ws y ++ nonW (ddOf (adOf acc o.dst) (r.us.map (·.1)) o.dst Γ) ++ [(d,⟨.kb b,fun _ => ()⟩)]):=.kb (r.at s) y d m b h1' hxn (chk_nil h3) h4 hd hxe hfree hfreeD hdrop
       rw [hus] at hop2
       refine ⟨_,hop2,hkeep _ (fun p hp => by
        rw [List.mem_singleton.1 hp,hd]
        simp),?_⟩
       funext t
       by_cases htd:t = d
       ·rw [L8]
        show setE _ d _ t = put _ d _ t
        unfold setE put
        rw [if_pos htd,if_pos htd]
       ·have hoff:(dyn r1.Δ s1 t).1.on d = false:=by
         rw [h5]
         unfold updF
         rw [hd]
         show (put _ d _ t).1.on d = false
         unfold put
         rw [if_neg htd]
         split
         ·rfl
         ·rename_i hno; simpa using hno
        unfold put
        rw [if_neg htd,hoff,if_neg (by simp),h5,hfr,L8,L8 (W:=(r.at s).ws y ++ nonW _),hd]
        show setE _ d _ t = setE _ d _ t
        unfold setE
        rw [if_neg htd,if_neg htd]
     ·cases hu
    ·cases hu
   ·cases hu
  ·cases hc
 ·rename_i h1
  have h1':runs ops (dyn Γ s) o = some false:=hrn.trans h1
  split at hc
  ·rename_i d hd
   split at hc
   ·rename_i hdn
    simp only [Bool.and_eq_true,decide_eq_true_eq,Bool.not_eq_true'] at hdn
    unfold usOf at hu
    rw [h1] at hu
    simp only at hu
    split at hu
    ·rename_i hfb
     simp only [Bool.and_eq_true] at hfb
     obtain ⟨hfb,y8,y9⟩:=hfb
     cases hu
     cases hc
     cases hf
     have e:=CE.put_fr (CE.here Γ) d ⟨.und,fun _ => ()⟩ s
     have e':dyn _ _ = put (dyn Γ s) d ⟨.und,fun _ => ()⟩:=e
     have hfd:=Ada hfb s
     have hup:=Sp (fr:=dyn Γ s) (us:=[]) (dst:=o.dst) (fun p hp => by simp at hp) hfd Vs ⟨.und,fun _ => ()⟩
     refine ⟨⟨fun i hi => absurd hi (by simp),fun i _ h => absurd h (by simp [Ent.onT]),fun i _ h => absurd h (by simp [Ent.on]),fun q _ t _ i hi => absurd hi (by simp),Ade,fun t ht => (List.mem_filter.1 ht).1,fun t _ i hi => absurd hi (by simp)⟩,_,.skip d h1' hd ⟨hdn.1.1,isG_no.1 hdn.1.2⟩ hdn.2 hfd Vs,fun p hp hz => ?_,?_,fun d' m b hd' hb => ?_⟩
     ·have hz':Z.contains p.1 = true:=by simpa using hz
      rcases List.mem_append.1 hp with hp | hp
      ·obtain ⟨t,ht,rfl⟩:=List.mem_map.1 (show p ∈ nonW _ by simpa using hp)
       have:=List.all_eq_true.1 y8 t ht
       rw [show Z.contains t = true from hz'] at this; cases this
      ·obtain rfl:=by simpa using hp
       have:=List.all_eq_true.1 y9 d (by rw [hd]; simp)
       rw [show Z.contains d = true from hz'] at this; cases this
     ·have h9:(o.dst.toList.map fun d => (d,(⟨.und,fun _ => ()⟩:Ex Unit))) = [(d,⟨.und,fun _ => ()⟩)]:=by rw [hd]; rfl
      rw [h9] at hup
      have h8:updF (dyn Γ s) o.dst ⟨.und,fun _ => ()⟩ [] = put (dyn Γ s) d ⟨.und,fun _ => ()⟩:=by unfold updF; rw [hd]; rfl
      exact (hup.symm.trans h8).trans e'.symm
     ·rw [hd] at hd'
      cases hd'
      replace hb:put (dyn Γ s) d ⟨.und,fun _ => ()⟩ d = ⟨.val .bool m,fun _ => b⟩:=(congrFun e' d).symm.trans hb
      unfold put at hb
      rw [if_pos rfl] at hb
      cases hb
    ·cases hu
   ·cases hc
  ·cases hc
 ·cases hc
theorem rdZ_nat {Z:List Nat} {ops:Array Oper} {Γ:Ctx} (s:Env Γ) (o:Oper):rdZ Z ops (dyn Γ s) o = rdZ Z ops Γ.get o:=rfl
theorem Vd {Tb:Tab} {n:Nat} {ops:Array Oper} {Z ds U ks gs:List Nat}:∀ {l:List Oper} {acc:List Info} {Γ:Ctx} {r:CR Γ},dops Tb n ops Z ds U ks gs l acc Γ = some r -> ∀ {s:Env Γ} {s':Env r.Δ},r.f s = some s' ->
  ∃ Ws acc' fr',DPath Tb n ops Z ds U acc l (dyn Γ s) Ws acc' fr' /\ FWk fr' (dyn r.Δ s')
 | [],acc,Γ,r,h,s,s',hf => by
  simp only [dops] at h
  split at h
  ·rename_i ρ hρ
   cases h
   cases hf
   exact ⟨_,_,_,.nil _ _,Kk s hρ⟩
  ·cases h
 | o :: l,acc,Γ,r,h,s,s',hf => by
  simp only [dops] at h
  split at h
  ·rename_i us dl ad dd e hus
   split at h
   ·rename_i r1 h1
    split at h
    ·rename_i hc
     simp only [Bool.and_eq_true,List.all_eq_true,decide_eq_true_eq] at hc
     obtain ⟨⟨hds,hedge⟩,htied⟩:=hc
     have hds':∀ d,o.dst = some d -> d ∈ ds:=fun d hd => by simpa using hds d (by rw [hd]; simp)
     have hedge':∀ e ∈ o.after,binds e = true -> e.on < acc.length:=fun e he hb => by
      have:=Array.all_eq_true'.1 hedge e he
      rw [hb] at this
      simpa using this
     have hgo:=fun {s1:Env r1.Δ} (hq:r1.f s = some s1) => opW_of hus h1 hq
     split at h
     ·rename_i d p hp _
      obtain ⟨hod,m,hget⟩:=hp
      split at h
      ·rename_i r2 r3 h2 h3
       split at h
       ·rename_i ρ2 ρ3 hρ2 hρ3
        cases h
        obtain ⟨s1,hq,hf⟩:=bind_some hf
        replace hf:(if p s1 then (r2.f ((setKb r1.Δ d true).ρ s1)).bind (fun e => some (ρ2 e)) else (r3.f ((setKb r1.Δ d false).ρ s1)).bind (fun e => some (ρ3 e))) = some s':=hf
        have hd:dyn r1.Δ s1 d = ⟨.val .bool m,fun _ => p s1⟩:=by unfold dyn; rw [hget]; rfl
        obtain ⟨kd,W,k1,k1z,k3,k4⟩:=hgo hq
        obtain ⟨W',q1,q1z,q3⟩:=k4 d m (p s1) hod hd
        have q2:=q1.dom
        cases hps:p s1 with
        | true =>
         rw [hps] at hf q3
         simp only [if_true] at hf
         obtain ⟨s2,hq2,hf⟩:=bind_some hf
         cases hf
         obtain ⟨Ws,acc',fr',j1,j2⟩:=Vd h2 hq2
         rw [U9,<- q3] at j1
         exact ⟨W' :: Ws,acc',fr',.step acc o l _ dl ad dd us e W' Ws acc' fr' q1 hds' hedge' (by rw [q2]; exact htied) kd q1z (by rw [q2]; exact j1),j2.trans (Kk s2 hρ2)⟩
        | false =>
         rw [hps] at hf q3
         simp only [Bool.false_eq_true,if_false] at hf
         obtain ⟨s2,hq2,hf⟩:=bind_some hf
         cases hf
         obtain ⟨Ws,acc',fr',j1,j2⟩:=Vd h3 hq2
         rw [U9,<- q3] at j1
         exact ⟨W' :: Ws,acc',fr',.step acc o l _ dl ad dd us e W' Ws acc' fr' q1 hds' hedge' (by rw [q2]; exact htied) kd q1z (by rw [q2]; exact j1),j2.trans (Kk s2 hρ3)⟩
       ·cases h
      ·cases h
     ·split at h
      ·rename_i r2 h2
       cases h
       obtain ⟨s1,hq,hf⟩:=bind_some hf
       obtain ⟨kd,W,k1,k1z,k3,k4⟩:=hgo hq
       have k2:=k1.dom
       obtain ⟨Ws,acc',fr',j1,j2⟩:=Vd h2 hf
       rw [<- k3] at j1
       exact ⟨W :: Ws,acc',fr',.step acc o l _ dl ad dd us e W Ws acc' fr' k1 hds' hedge' (by rw [k2]; exact htied) kd k1z (by rw [k2]; exact j1),j2⟩
      ·cases h
    ·cases h
   ·cases h
  ·cases h
theorem Wb {ds U:List Nat}:∀ {Γ:Ctx} (s:Env (Γ.filter fun p => !hangs ds U p.2)),(∀ t,∀ d ∈ ds,(dyn _ s t).1.on d = false) /\ ∀ t,∀ i ∈ U,(dyn _ s t).1.onT i = false:=by
 intro Γ
 have:∀ {Δ:Ctx} (s:Env Δ),(∀ p ∈ Δ,hangs ds U p.2 = false) -> ∀ t,(∀ d ∈ ds,(dyn Δ s t).1.on d = false) /\ ∀ i ∈ U,(dyn Δ s t).1.onT i = false:=by
  intro Δ
  induction Δ with
  | nil => intro s _ t; exact ⟨fun _ _ => rfl,fun _ _ => rfl⟩
  | cons p Δ ih =>
   intro s h t
   by_cases hp:p.1 = t
   ·subst hp
    rw [dyn_eq]
    exact Ab7 (h p (by simp))
   ·rw [dyn_ne hp]
    exact ih s.2 (fun q hq => h q (by simp [hq])) t
 intro s
 have:=this s fun p hp => by simpa using (List.mem_filter.1 hp).2
 exact ⟨fun t => (this t).1,fun t => (this t).2⟩
section
variable {C:Cx} {fr:Fr} {a:Act} {w:World} {P:Prot} {T:Nat -> List Nat}
theorem Sim.drawn (h:Sim C fr a w P T):Sim C fr a { w with drawn:=w.drawn + 1 } P T:=by
 have hl:Later w P { w with drawn:=w.drawn + 1 } P:=⟨Nat.le_refl _,fun _ _ h => h,fun _ _ _ _ h => h,fun _ _ _ _ => rfl⟩
 have hk:∀ S,Keeps w P { w with drawn:=w.drawn + 1 } P S:=fun S => ⟨hl,fun _ _ => .of rfl,fun _ _ _ h => h⟩
 refine ⟨h.size,h.defers,h.dom,h.tdom,⟨h.pext.os,h.pext.tape,h.pext.output,h.pext.size,h.pext.block,h.pext.free,h.pext.prot,h.pext.old,h.pext.there⟩,
  fun t => (h.rep t).mono (hk _) (fun _ _ => rfl) fun i _ => ⟨rfl,fun b _ => .of rfl⟩,h.nodup,h.apart,h.new,h.pin,h.gown⟩
theorem P4 {Q:Exit -> Act -> World -> Prop} (hm:C.M.follows .mixedOrders = true) {Tb:Tab} (hT:TabOk C.M Tb) (hsg:∀ f s,Tb.sg f = some s -> SigR C.M C.w0 C.P0 f s) (hpin:∀ t,Tb.pin t = false -> C.pv t = none) {id:Nat} {ops:Array Oper} {ks:List Nat} {Γ:Ctx} {r:CR Γ}
  (hc:cany Tb C.n ops ks Γ = some r) {s:Env Γ} {s':Env r.Δ} (hf:r.f s = some s') (h:Sim C (dyn Γ s) a w P T)
  (hQ:∀ a' w' P' T',Sim C (dyn r.Δ s') a' w' P' T' -> Q .normal a' w'):(Code.region id ops true).wp C.M Q a w:=by
 have key:∀ {Z ds U gs:List Nat} {ρ:Env Γ -> Env (Γ.filter fun p => !hangs ds U p.2)} {r':CR (Γ.filter fun p => !hangs ds U p.2)},weakTo Γ.get (Γ.filter fun p => !hangs ds U p.2) = some ρ -> dops Tb C.n ops Z ds U ks gs ops.toList [] (Γ.filter fun p => !hangs ds U p.2) = some r' ->
   ∀ {s':Env r'.Δ},r'.f (ρ s) = some s' -> (∀ a' w' P' T',Sim C (dyn r'.Δ s') a' w' P' T' -> Q .normal a' w') -> (Code.region id ops true).wp C.M Q a w:=by
  intro Z ds U gs ρ r' hρ hr' s' hf hQ
  obtain ⟨P1,T1,h1⟩:=h.drawn.weak (Kk s hρ)
  obtain ⟨Ws,acc,fr',k1,k2⟩:=Vd hr' hf
  refine wp_region_any hm ?_
  refine Af5 hT hsg hpin k1 (Wb _).1 (Wb _).2 (fun a' w' P' T' h' => ?_) ops.size (Array.replicate ops.size false) a _ P1 T1 (by simp) ?_ ?_ ?_
  ·obtain ⟨P'',T'',h''⟩:=h'.weak k2
   exact hQ _ _ _ _ h''
  ·intro k o hk hl
   have hlt:k < ops.size:=(Array.getElem?_eq_some_iff.1 hk).1
   simp [Array.getD,hlt] at hl
  ·exact Nat.le_trans (List.length_filter_le _ _) (by simp)
  ·have:sel (fun i => (Array.replicate ops.size false).getD i true) 0 Ws (dyn _ (ρ s)) = dyn _ (ρ s):=by
    have h0:sel (fun _ => false) 0 Ws (dyn _ (ρ s)) = dyn _ (ρ s):=Q8 fun _ _ => rfl
    rw [<- h0]
    funext t
    rw [h0]
    refine (Pi (L':=fun _ => false) (fun j W hj _ => ?_) rfl).trans (congrFun h0 t)
    have hlt:j < ops.size:=by
     have:=(List.getElem?_eq_some_iff.1 hj).1
     rw [k1.acc.2.2.1] at this
     simpa using this
    simp [Array.getD,hlt]
   rw [this]
   exact h1
 unfold cany at hc
 simp only at hc
 split at hc
 ·rename_i ρ hρ
  split at hc
  ·rename_i r' hr'
   cases hc
   exact key hρ hr' hf hQ
  ·split at hc
   ·rename_i r' hr'
    cases hc
    exact key hρ hr' hf hQ
   ·cases hc
 ·cases hc
end
mutual
def expl {S:Type}:(t:Ty) -> Md -> Nat -> (S -> t.den) -> Option (List (Nat × Ex S))
 | .st ts,m,o,f => expls ts m o f
 | .int k,m,o,f => some [(gB + o,⟨.val (.int k) m,f⟩)]
 | .bool,m,o,f => some [(gB + o,⟨.val .bool m,f⟩)]
 | .str,m,o,f => some [(gB + o,⟨.val .str m,f⟩)]
 | .sl e t,m,o,f => some [(gB + o,⟨.val (.sl e t) m,f⟩)]
 | .ptr t,m,o,f => some [(gB + o,⟨.val (.ptr t) m,f⟩)]
 | _,_,_,_ => none
def expls {S:Type}:(ts:List Ty) -> Md -> Nat -> (S -> Ty.dens ts) -> Option (List (Nat × Ex S))
 | [],_,_,_ => some []
 | t :: ts,m,o,f => match expl t m.hd o (fun s => (f s).1),expls ts m.tl (o + t.size) (fun s => (f s).2) with
  | some a,some b => some (a ++ b)
  | _,_ => none
end
def implL {S:Type} (x:Ex S) (t:Ty):Option (Md × (S -> t.den)):=
 match x with
 | ⟨.val t' m,f⟩ => match Ty.same t' t with
  | some ⟨k⟩ => some (m,k ▸ (show S -> t'.den from f))
  | none => none
 | _ => none
theorem Aif {S:Type} {x:Ex S} {t:Ty} {m:Md} {f:S -> t.den} (h:implL x t = some (m,f)):x = ⟨.val t m,f⟩:=by
 unfold implL at h
 split at h
 ·split at h
  ·rename_i k _
   subst k
   cases h
   rfl
  ·cases h
 ·cases h
mutual
def impl {S:Type} (g:Nat -> Ex S):(t:Ty) -> Nat -> Option (Md × (S -> t.den))
 | .st ts,o => impls g ts o
 | .int k,o => implL (g (gB + o)) (.int k)
 | .bool,o => implL (g (gB + o)) .bool
 | .str,o => implL (g (gB + o)) .str
 | .sl e t,o => implL (g (gB + o)) (.sl e t)
 | .ptr t,o => implL (g (gB + o)) (.ptr t)
 | _,_ => none
def impls {S:Type} (g:Nat -> Ex S):(ts:List Ty) -> Nat -> Option (Md × (S -> Ty.dens ts))
 | [],_ => some (.p,fun _ => ())
 | t :: ts,o => match impl g t o,impls g ts (o + t.size) with
  | some (m,f),some (m',f') => some (.s m m',fun s => (f s,f' s))
  | _,_ => none
end
structure Bits (M:Program) (w:World) (P:Prot) (b o n:Nat) (T:List Nat) (W:WS) (Tg:Nat -> List Nat):Prop where
 at_:∀ p ∈ W,∃ j,p.1 = gB + j /\ o <= j /\ j < o + n /\ ∃ t m v,p.2.1 = .val t m /\ w.cell? ⟨b,j,none⟩ = some v /\ ∀ tm Tf,RepE M w P tm Tf p.2 v (Tg p.1)
 keys:(wdom W).Nodup
 off:∀ k,k ∉ wdom W -> Tg k = []
 all:∀ c,c ∈ T ↔ ∃ k,c ∈ Tg k
 nodup:T.Nodup -> (∀ k,(Tg k).Nodup) /\ ∀ k l,k ≠ l -> ∀ c ∈ Tg k,c ∉ Tg l
theorem Bits.one {M:Program} {w:World} {P:Prot} {b o:Nat} {t:Ty} {m:Md} {x:t.den} {v:Value} {T:List Nat} (hr:RepV M t w P m x v T) (hc:w.cell? ⟨b,o,none⟩ = some v) :
  Bits M w P b o 1 T [(gB + o,⟨.val t m,fun _ => x⟩)] (fun k => if k = gB + o then T else []):=by
 refine ⟨fun p hp => ?_,by simp [wdom],fun k hk => ?_,fun c => ⟨fun h => ⟨gB + o,by rw [if_pos rfl]; exact h⟩,fun ⟨k,h⟩ => ?_⟩,fun hn => ⟨fun k => ?_,fun k l hkl c hc hc' => ?_⟩⟩
 ·rw [List.mem_singleton.1 hp]
  exact ⟨o,rfl,Nat.le_refl _,by omega,t,m,v,rfl,hc,fun tm Tf => by rw [if_pos rfl]; exact hr⟩
 ·rw [if_neg (fun e => hk (by rw [e]; simp [wdom]))]
 ·split at h
  ·exact h
  ·simp at h
 ·split
  ·exact hn
  ·exact List.nodup_nil
 ·split at hc
  ·split at hc'
   ·rename_i h1 h2; exact hkl (h1.trans h2.symm)
   ·simp at hc'
  ·simp at hc
theorem Bits.app {M:Program} {w:World} {P:Prot} {b o n n':Nat} {T T':List Nat} {W W':WS} {Tg Tg':Nat -> List Nat} (h:Bits M w P b o n T W Tg) (h':Bits M w P b (o + n) n' T' W' Tg') :
  Bits M w P b o (n + n') (T ++ T') (W ++ W') (fun k => Tg k ++ Tg' k):=by
 have hk:∀ k ∈ wdom W,∃ j,k = gB + j /\ o <= j /\ j < o + n:=fun k hk => by
  obtain ⟨p,hp,rfl⟩:=List.mem_map.1 hk
  obtain ⟨j,e,h1,h2,_⟩:=h.at_ p hp
  exact ⟨j,e,h1,h2⟩
 have hk':∀ k ∈ wdom W',∃ j,k = gB + j /\ o + n <= j /\ j < o + n + n':=fun k hk => by
  obtain ⟨p,hp,rfl⟩:=List.mem_map.1 hk
  obtain ⟨j,e,h1,h2,_⟩:=h'.at_ p hp
  exact ⟨j,e,h1,h2⟩
 have hdis:∀ k,k ∈ wdom W -> k ∉ wdom W':=fun k h1 h2 => by
  obtain ⟨j,e,a1,a2⟩:=hk k h1
  obtain ⟨j',e',b1,b2⟩:=hk' k h2
  omega
 refine ⟨fun p hp => ?_,?_,fun k hk => ?_,fun c => ?_,fun hn => ?_⟩
 ·rcases List.mem_append.1 hp with hp | hp
  ·obtain ⟨j,e,h1,h2,t,m,v,e1,e2,e3⟩:=h.at_ p hp
   refine ⟨j,e,h1,by omega,t,m,v,e1,e2,?_⟩
   rw [h'.off p.1 (hdis _ (List.mem_map_of_mem hp)),List.append_nil]
   exact e3
  ·obtain ⟨j,e,h1,h2,t,m,v,e1,e2,e3⟩:=h'.at_ p hp
   refine ⟨j,e,by omega,by omega,t,m,v,e1,e2,?_⟩
   rw [h.off p.1 (fun hm => hdis _ hm (List.mem_map_of_mem hp)),List.nil_append]
   exact e3
 ·unfold wdom
  rw [List.map_append]
  exact List.nodup_append.2 ⟨h.keys,h'.keys,fun a ha b hb e => hdis a ha (e ▸ hb)⟩
 ·unfold wdom at hk
  rw [List.map_append,List.mem_append] at hk
  rw [h.off k (fun hm => hk (.inl hm)),h'.off k (fun hm => hk (.inr hm))]
  rfl
 ·rw [List.mem_append,h.all,h'.all]
  constructor
  ·rintro (⟨k,hc⟩ | ⟨k,hc⟩)
   ·exact ⟨k,List.mem_append.2 (.inl hc)⟩
   ·exact ⟨k,List.mem_append.2 (.inr hc)⟩
  ·rintro ⟨k,hc⟩
   rcases List.mem_append.1 hc with hc | hc
   ·exact .inl ⟨k,hc⟩
   ·exact .inr ⟨k,hc⟩
 ·obtain ⟨n1,n2,n3⟩:=List.nodup_append.1 hn
  obtain ⟨a1,a2⟩:=h.nodup n1
  obtain ⟨b1,b2⟩:=h'.nodup n2
  have hx:∀ k l,∀ c ∈ Tg k,c ∉ Tg' l:=fun k l c hc hc' => n3 c ((h.all c).2 ⟨k,hc⟩) c ((h'.all c).2 ⟨l,hc'⟩) rfl
  refine ⟨fun k => List.nodup_append.2 ⟨a1 k,b1 k,fun c hc d hd e => hx k k c hc (e ▸ hd)⟩,fun k l hkl c hc hc' => ?_⟩
  rcases List.mem_append.1 hc with hc | hc <;> rcases List.mem_append.1 hc' with hc' | hc'
  ·exact a2 k l hkl c hc hc'
  ·exact hx k l c hc hc'
  ·exact hx l k c hc' hc
  ·exact b2 k l hkl c hc hc'
mutual
theorem expl_ok {S:Type} {s:S} {M:Program} {w:World} {P:Prot} {b:Nat}:(t:Ty) -> ∀ {m:Md} {o:Nat} {f:S -> t.den} {L:List (Nat × Ex S)} {cs:List Value} {T:List Nat},expl t m o f = some L -> RepC M t w P m (f s) cs T -> CellsIn w b o cs ->
  ∃ Tg,Bits M w P b o t.size T (usAt s L) Tg
 | .st ts,m,o,f,L,cs,T,h,hr,hc => by
  simp only [expl] at h
  simp only [RepC] at hr
  simp only [Ty.size]
  exact Zj ts h hr hc
 | .int k,m,o,f,L,cs,T,h,hr,hc => by
  simp only [expl,Option.some.injEq] at h
  subst h
  simp only [RepC] at hr
  obtain ⟨rfl,rfl⟩:=hr
  exact ⟨_,Bits.one (t:=.int k) (m:=m) (x:=f s) (by simp only [RepV]; exact ⟨rfl,trivial⟩) (by simpa using hc 0 _ rfl)⟩
 | .bool,m,o,f,L,cs,T,h,hr,hc => by
  simp only [expl,Option.some.injEq] at h
  subst h
  simp only [RepC] at hr
  obtain ⟨rfl,rfl⟩:=hr
  exact ⟨_,Bits.one (t:=.bool) (m:=m) (x:=f s) (by simp only [RepV]; exact ⟨rfl,trivial⟩) (by simpa using hc 0 _ rfl)⟩
 | .str,m,o,f,L,cs,T,h,hr,hc => by
  simp only [expl,Option.some.injEq] at h
  subst h
  simp only [RepC] at hr
  obtain ⟨rfl,rfl⟩:=hr
  exact ⟨_,Bits.one (t:=.str) (m:=m) (x:=f s) (by simp only [RepV]; exact ⟨rfl,trivial⟩) (by simpa using hc 0 _ rfl)⟩
 | .sl e t,m,o,f,L,cs,T,h,hr,hc => by
  simp only [expl,Option.some.injEq] at h
  subst h
  simp only [RepC] at hr
  obtain ⟨v,rfl,hr⟩:=hr
  exact ⟨_,Bits.one (t:=.sl e t) (m:=m) (x:=f s) (by simp only [RepV]; exact hr) (by simpa using hc 0 _ rfl)⟩
 | .ptr t,m,o,f,L,cs,T,h,hr,hc => by
  simp only [expl,Option.some.injEq] at h
  subst h
  simp only [RepC] at hr
  obtain ⟨v,rfl,hr⟩:=hr
  exact ⟨_,Bits.one (t:=.ptr t) (m:=m) (x:=f s) (by simp only [RepV]; exact hr) (by simpa using hc 0 _ rfl)⟩
 | .fn _ _,_,_,_,_,_,_,h,_,_ => by simp only [expl] at h; cases h
 | .tup _,_,_,_,_,_,_,h,_,_ => by simp only [expl] at h; cases h
theorem Zj {S:Type} {s:S} {M:Program} {w:World} {P:Prot} {b:Nat}:(ts:List Ty) -> ∀ {m:Md} {o:Nat} {f:S -> Ty.dens ts} {L:List (Nat × Ex S)} {cs:List Value} {T:List Nat},expls ts m o f = some L -> RepCs M ts w P m (f s) cs T -> CellsIn w b o cs ->
  ∃ Tg,Bits M w P b o (Ty.sizes ts) T (usAt s L) Tg
 | [],m,o,f,L,cs,T,h,hr,hc => by
  simp only [expls,Option.some.injEq] at h
  subst h
  simp only [RepCs] at hr
  obtain ⟨rfl,rfl⟩:=hr
  exact ⟨fun _ => [],⟨fun p hp => by simp [usAt] at hp,by simp [usAt,wdom],fun _ _ => rfl,fun c => by simp,fun _ => ⟨fun _ => List.nodup_nil,fun _ _ _ _ hc => by simp at hc⟩⟩⟩
 | t :: ts,m,o,f,L,cs,T,h,hr,hc => by
  simp only [expls] at h
  split at h
  ·rename_i a b' ha hb
   simp only [Option.some.injEq] at h
   subst h
   simp only [RepCs] at hr
   obtain ⟨c1,c2,T1,T2,rfl,rfl,h1,h2⟩:=hr
   have hl:=(RepC.length t h1).1
   obtain ⟨Tg,g1⟩:=expl_ok t ha h1 (fun j v hj => hc j v (by rw [List.getElem?_append_left (List.getElem?_eq_some_iff.1 hj).1]; exact hj))
   obtain ⟨Tg',g2⟩:=Zj ts hb h2 (fun j v hj => by
    have:=hc (c1.length + j) v (by rw [List.getElem?_append_right (by omega)]; simpa using hj)
    rw [show o + t.size + j = o + (c1.length + j) by omega]
    exact this)
   refine ⟨fun k => Tg k ++ Tg' k,?_⟩
   have e:usAt s (a ++ b') = usAt s a ++ usAt s b':=List.map_append
   rw [e]
   simp only [Ty.sizes]
   exact g1.app g2
  ·cases h
end
section
variable {C:Cx} {fr:Fr} {a:Act} {w:World} {P:Prot} {T:Nat -> List Nat}
theorem Sim.explode (h:Sim C fr a w P T) (hgb:C.gb = none) {gs:Nat} (hgs:gs < gB) {ts:List Ty} {m:Md} {f:Unit -> Ty.dens ts} (hfr:fr gs = ⟨.val (.ptr (.st ts)) (.u m),f⟩)
  (hon:∀ t,t ≠ gs -> (fr t).1.on gs = false /\ ∀ i,gB <= i -> (fr t).1.on i = false) (hg:∀ t,gB <= t -> fr t = Ex.non) {S:Type} {s:S} {F:S -> Ty.dens ts} (hF:F s = f ()) {L:List (Nat × Ex S)} (hL:expls ts m 0 F = some L) (h64:Ty.sizes ts <= 64) :
  ∃ b T',Sim { C with gb:=some b,gn:=Ty.sizes ts } (app fr ((gs,⟨.pb 0 (.st ts),fun _ => ()⟩) :: usAt s L)) a w P T':=by
 obtain ⟨hgin,hr⟩:=h.root hfr
 rw [Cx.at_n hgs] at hr
 have hr:RepPt (RepC C.M (.st ts) w P) w P (.u m) (f ()) (Act.at a gs) (T gs):=by simpa only [RepV] using hr
 obtain ⟨b,cells,Tc,e,hv,hrow,hrc,hcells,hT,hP⟩:=hr
 have hrc:RepCs C.M ts w P m (f ()) cells Tc:=by simpa only [RepC] using hrc
 have hlen:cells.length = Ty.sizes ts:=(RepC.length (.st ts) (show RepC C.M (.st ts) w P m (f ()) cells Tc by simpa only [RepC] using hrc)).1
 obtain ⟨Tg,hb⟩:=Zj (s:=s) (b:=b) ts hL (by rw [hF]; exact hrc) hcells
 generalize usAt s L = W at hb
 have hkey:∀ k ∈ wdom W,∃ j,k = gB + j /\ j < Ty.sizes ts:=fun k hk => by
  obtain ⟨p,hp,rfl⟩:=List.mem_map.1 hk
  obtain ⟨j,e,h1,h2,_⟩:=hb.at_ p hp
  exact ⟨j,e,by omega⟩
 have hgW:gs ∉ wdom W:=fun hm => by obtain ⟨j,e,_⟩:=hkey gs hm; omega
 have e0:app fr ((gs,⟨.pb 0 (.st ts),fun _ => ()⟩) :: W) = app (setE fr gs ⟨.pb 0 (.st ts),fun _ => ()⟩) W:=rfl
 rw [e0]
 generalize hF':app (setE fr gs ⟨.pb 0 (.st ts),fun _ => ()⟩) W = F'
 have e1:F' gs = ⟨.pb 0 (.st ts),fun _ => ()⟩:=by
  rw [<- hF',app_not hgW]
  unfold setE; rw [if_pos rfl]
 have e2:∀ k ∈ wdom W,(k,F' k) ∈ W:=fun k hk => by rw [<- hF']; exact app_mem hk
 have e3:∀ k,k ∉ wdom W -> k ≠ gs -> F' k = fr k:=fun k hk hne => by
  rw [<- hF',app_not hk]
  unfold setE; rw [if_neg hne]
 have hnd:=h.nodup gs
 rw [hT] at hnd
 obtain ⟨hbTc,hTc⟩:=List.nodup_cons.1 hnd
 obtain ⟨n1,n2⟩:=hb.nodup hTc
 have hTgT:∀ k,∀ c ∈ Tg k,c ∈ T gs:=fun k c hc => by rw [hT]; exact List.mem_cons_of_mem _ ((hb.all c).2 ⟨k,hc⟩)
 have hsl:∀ k ∈ wdom W,k ∈ slots C.n:=fun k hk => by
  obtain ⟨j,rfl,hj⟩:=hkey k hk
  exact List.mem_append.2 (.inr (List.mem_map.2 ⟨j,List.mem_range.2 (by omega),rfl⟩))
 let C':Cx:={ C with gb:=some b,gn:=Ty.sizes ts }
 have hat:∀ t,t < gB -> C'.at a w t = C.at a w t:=fun t ht => by rw [Cx.at_n ht,Cx.at_n ht]
 have hatK:C'.at a w gK = .slice (some ⟨b,0,none⟩) (Ty.sizes ts) (Ty.sizes ts):=by
  unfold Cx.at; rw [if_neg (by decide)]; simp [C']
 have hatG:∀ j,j < 64 -> C'.at a w (gB + j) = (w.cell? ⟨b,j,none⟩).getD undef:=fun j hj => Cx.at_ghost (C:=C') rfl hj
 refine ⟨b,fun t => if t = gs then [] else if gB <= t then Tg t else T t,h.size,h.defers,fun t ht => ?_,fun t ht => ?_,h.pext,fun t => ?_,fun t => ?_,fun t u htu c hc hc' => ?_,fun t c hc => ?_,h.pin,fun b' hb' => ?_⟩
 ·rw [e3 t (fun hm => ht (hsl t hm)) (fun e => ht (e ▸ hgin))]
  exact h.dom t ht
 ·have hne:t ≠ gs:=fun e => ht (e ▸ hgin)
  simp only [if_neg hne]
  split
  ·exact hb.off t (fun hm => ht (hsl t hm))
  ·exact h.tdom t ht
 ·by_cases hts:t = gs
  ·subst hts
   simp only [if_true]
   rw [e1]
   refine ⟨rfl,b,_,hatK,?_,by simp [Ty.size]⟩
   rw [hat t hgs,Cx.at_n hgs]
   exact hv
  ·simp only [if_neg hts]
   by_cases htw:t ∈ wdom W
   ·obtain ⟨j,e,h1,h2,t',m',v,g1,g2,g3⟩:=hb.at_ _ (e2 t htw)
    simp only at e
    subst e
    rw [if_pos (by omega)]
    have:C'.at a w (gB + j) = v:=by rw [hatG j (by omega),g2]; rfl
    rw [this]
    exact g3 _ _
   ·rw [e3 t htw hts]
    by_cases hge:gB <= t
    ·rw [if_pos hge,hg t hge,hb.off t htw]
     rfl
    ·rw [if_neg hge]
     have hlt:t < gB:=Nat.lt_of_not_le hge
     obtain ⟨o1,o2⟩:=hon t hts
     rw [hat t hlt]
     refine (h.rep t).mono (Keeps.refl w P _) (fun i hi => ?_) (fun i hi => ⟨?_,fun c _ => .refl w c⟩)
     ·exact hat i (Nat.lt_of_not_le fun hge' => by rw [o2 i hge'] at hi; cases hi)
     ·have hoi:=Ent.on_of_onT hi
      have h1:i ≠ gs:=fun e => by rw [e,o1] at hoi; cases hoi
      have h2:¬ gB <= i:=fun hge' => by rw [o2 i hge'] at hoi; cases hoi
      simp only [if_neg h1,if_neg h2]
 ·split
  ·exact List.nodup_nil
  ·split
   ·exact n1 t
   ·exact h.nodup t
 ·split at hc
  ·simp at hc
  ·rename_i hts
   split at hc
   ·split at hc'
    ·simp at hc'
    ·rename_i hus
     split at hc'
     ·exact n2 t u htu c hc hc'
     ·exact h.apart gs u (Ne.symm hus) c (hTgT t c hc) hc'
   ·split at hc'
    ·simp at hc'
    ·split at hc'
     ·exact h.apart gs t (Ne.symm hts) c (hTgT u c hc') hc
     ·exact h.apart t u htu c hc hc'
 ·split at hc
  ·simp at hc
  ·split at hc
   ·exact h.new gs c (hTgT t c hc)
   ·exact h.new t c hc
 ·have hb':some b = some b':=hb'
  cases hb'
  have hbT:b ∈ T gs:=by rw [hT]; simp
  obtain ⟨g1,g2⟩:=h.new gs b hbT
  refine ⟨g1,g2,fun t hm => ?_,⟨e,by rw [<- hlen]; exact hrow⟩,hP⟩
  split at hm
  ·simp at hm
  ·rename_i hts
   split at hm
   ·exact hbTc ((hb.all b).2 ⟨t,hm⟩)
   ·exact h.apart gs t (Ne.symm hts) b hbT hm
theorem leaf_ok {M:Program} {tm:Nat -> Value} {b o:Nat} {t:Ty} (ht:t.part = true) {m:Md} {f:Unit -> t.den} (hr:RepE M w P tm T ⟨.val t m,f⟩ ((w.cell? ⟨b,o,none⟩).getD undef) (T (gB + o))) (hnd:∀ t,(T t).Nodup) :
  ∃ cs Tc,RepC M t w P m (f ()) cs Tc /\ cs.length = t.size /\ CellsIn w b o cs /\ (∀ c ∈ Tc,∃ j,o <= j /\ j < o + t.size /\ c ∈ T (gB + j)) /\ Tc.Nodup:=by
 have hr:RepV M t w P m (f ()) ((w.cell? ⟨b,o,none⟩).getD undef) (T (gB + o)):=hr
 obtain ⟨h1,h2⟩:=hr.part ht
 have hsz:t.size = 1:=by revert ht; cases t <;> simp [Ty.part,Ty.size]
 obtain ⟨k1,k2⟩:=Bb t (by revert ht; cases t <;> simp [Ty.part,Ty.cell]) hr
 cases hc:w.cell? ⟨b,o,none⟩ with
 | none => rw [hc] at h1; exact absurd rfl h1
 | some v =>
  rw [hc] at k1 h2
  simp only [Option.getD_some] at k1 h2
  rw [h2] at k1
  refine ⟨[v],_,k1,by rw [hsz]; rfl,fun j u hj => ?_,fun c hcc => ⟨o,Nat.le_refl _,by omega,hcc⟩,hnd _⟩
  cases j with
  | zero => simp at hj; subst hj; exact hc
  | succ j => simp at hj
theorem leaf_at {M:Program} {tm:Nat -> Value} {b:Nat} (hrep:∀ j,j < 64 -> RepE M w P tm T (fr (gB + j)) ((w.cell? ⟨b,j,none⟩).getD undef) (T (gB + j))) (hnd:∀ t,(T t).Nodup) (t:Ty) (ht:t.part = true)
  {o:Nat} {m:Md} {f:Unit -> t.den} (h:implL (fr (gB + o)) t = some (m,f)) (ho:o + t.size <= 64):∃ cs Tc,RepC M t w P m (f ()) cs Tc /\ cs.length = t.size /\ CellsIn w b o cs /\ (∀ c ∈ Tc,∃ j,o <= j /\ j < o + t.size /\ c ∈ T (gB + j)) /\ Tc.Nodup:=by
 have hsz:t.size = 1:=by revert ht; cases t <;> simp [Ty.part,Ty.size]
 have hr:=hrep o (by omega)
 rw [Aif h] at hr
 exact leaf_ok ht hr hnd
mutual
theorem impl_ok {M:Program} {tm:Nat -> Value} {b:Nat} (hrep:∀ j,j < 64 -> RepE M w P tm T (fr (gB + j)) ((w.cell? ⟨b,j,none⟩).getD undef) (T (gB + j))) (hnd:∀ t,(T t).Nodup) (hap:∀ t u,t ≠ u -> ∀ b ∈ T t,b ∉ T u) :
  (t:Ty) -> ∀ {o:Nat} {m:Md} {f:Unit -> t.den},impl fr t o = some (m,f) -> o + t.size <= 64 -> ∃ cs Tc,RepC M t w P m (f ()) cs Tc /\ cs.length = t.size /\ CellsIn w b o cs /\ (∀ c ∈ Tc,∃ j,o <= j /\ j < o + t.size /\ c ∈ T (gB + j)) /\ Tc.Nodup
 | .st ts,o,m,f,h,ho =>
  have ⟨cs,Tc,h1,h2,h3,h4⟩:=Y0 hrep hnd hap ts (o:=o) (m:=m) (f:=f) h ho
  ⟨cs,Tc,by simpa only [RepC] using h1,h2,h3,h4⟩
 | .int k,o,m,f,h,ho => leaf_at hrep hnd (.int k) rfl h ho
 | .bool,o,m,f,h,ho => leaf_at hrep hnd (.bool) rfl h ho
 | .str,o,m,f,h,ho => leaf_at hrep hnd (.str) rfl h ho
 | .sl e t,o,m,f,h,ho => leaf_at hrep hnd (.sl e t) rfl h ho
 | .ptr t,o,m,f,h,ho => leaf_at hrep hnd (.ptr t) rfl h ho
 | .fn _ _,o,m,f,h,_ => absurd (show (none:Option (Md × (Unit -> (Ty.fn _ _).den))) = some (m,f) from h) (by simp)
 | .tup _,o,m,f,h,_ => absurd (show (none:Option (Md × (Unit -> (Ty.tup _).den))) = some (m,f) from h) (by simp)
theorem Y0 {M:Program} {tm:Nat -> Value} {b:Nat} (hrep:∀ j,j < 64 -> RepE M w P tm T (fr (gB + j)) ((w.cell? ⟨b,j,none⟩).getD undef) (T (gB + j))) (hnd:∀ t,(T t).Nodup) (hap:∀ t u,t ≠ u -> ∀ b ∈ T t,b ∉ T u) :
  (ts:List Ty) -> ∀ {o:Nat} {m:Md} {f:Unit -> Ty.dens ts},impls fr ts o = some (m,f) -> o + Ty.sizes ts <= 64 -> ∃ cs Tc,RepCs M ts w P m (f ()) cs Tc /\ cs.length = Ty.sizes ts /\ CellsIn w b o cs /\ (∀ c ∈ Tc,∃ j,o <= j /\ j < o + Ty.sizes ts /\ c ∈ T (gB + j)) /\ Tc.Nodup
 | [],o,m,f,h,ho => by
  refine ⟨[],[],by simp only [RepCs]; exact ⟨trivial,trivial⟩,rfl,fun j v hj => by simp at hj,by simp,List.nodup_nil⟩
 | t :: ts,o,m,f,h,ho => by
  simp only [impls] at h
  split at h
  ·rename_i m1 f1 m2 f2 h1 h2
   cases h
   simp only [Ty.sizes] at ho ⊢
   obtain ⟨c1,T1,a1,a2,a3,a4,a5⟩:=impl_ok hrep hnd hap t h1 (by omega)
   obtain ⟨c2,T2,b1,b2,b3,b4,b5⟩:=Y0 hrep hnd hap ts h2 (by omega)
   refine ⟨c1 ++ c2,T1 ++ T2,?_,by simp [a2,b2],fun j v hj => ?_,fun c hc => ?_,List.nodup_append.2 ⟨a5,b5,fun c hc d hd e => ?_⟩⟩
   ·simp only [RepCs]
    exact ⟨c1,c2,T1,T2,rfl,rfl,a1,b1⟩
   ·rcases Nat.lt_or_ge j c1.length with hlt | hge
    ·exact a3 j v (by rw [List.getElem?_append_left hlt] at hj; exact hj)
    ·rw [List.getElem?_append_right hge] at hj
     have:=b3 _ v hj
     rw [show o + t.size + (j - c1.length) = o + j by omega] at this
     exact this
   ·rcases List.mem_append.1 hc with hc | hc
    ·obtain ⟨j,q1,q2,q3⟩:=a4 c hc; exact ⟨j,q1,by omega,q3⟩
    ·obtain ⟨j,q1,q2,q3⟩:=b4 c hc; exact ⟨j,by omega,by omega,q3⟩
   ·subst e
    obtain ⟨j,q1,q2,q3⟩:=a4 c hc
    obtain ⟨j',r1,r2,r3⟩:=b4 c hd
    exact hap (gB + j) (gB + j') (by omega) c q3 r3
  ·cases h
end
theorem Sim.implode {b:Nat} {ts:List Ty} (h:Sim { C with gb:=some b,gn:=Ty.sizes ts } fr a w P T) (hgb:C.gb = none) {gs:Nat} (hgs:gs < gB) {f0:Unit -> (Ent.pb 0 (.st ts)).pay} (hp:fr gs = ⟨.pb 0 (.st ts),f0⟩)
  (hon:∀ t,t ≠ gs -> t < gB -> (fr t).1.on gs = false /\ ∀ i,gB <= i -> (fr t).1.on i = false) {m:Md} {f:Unit -> Ty.dens ts} (him:impls fr ts 0 = some (m,f)) (h64:Ty.sizes ts <= 64) :
  ∃ T',Sim C (fun t => if t = gs then ⟨.val (.ptr (.st ts)) (.u m),f⟩ else if gB <= t then Ex.non else fr t) a w P T':=by
 let C':Cx:={ C with gb:=some b,gn:=Ty.sizes ts }
 have hat:∀ t,t < gB -> C.at a w t = C'.at a w t:=fun t ht => by rw [Cx.at_n ht,Cx.at_n ht]
 have hatG:∀ j,j < 64 -> C'.at a w (gB + j) = (w.cell? ⟨b,j,none⟩).getD undef:=fun j hj => Cx.at_ghost (C:=C') rfl hj
 obtain ⟨o1,o2,o3,⟨re,o4⟩,o5⟩:=h.gown b rfl
 have hrp:=h.rep gs
 rw [hp] at hrp
 obtain ⟨_,b',n,hK,hv,_⟩:=hrp
 have hbb:b' = b:=by
  have hK:C'.at a w gK = .slice (some ⟨b',0,none⟩) n n:=hK
  have:=(Cx.at_gb hK).1
  cases this
  rfl
 subst hbb
 have hv:C'.at a w gs = .pointer (some ⟨b',0,none⟩):=hv
 have hgin:gs ∈ slots C.n:=h.lt_of (by rw [hp]; simp)
 obtain ⟨cs,Tc,r1,r2,r3,r4,r5⟩:=Y0 (M:=C.M) (tm:=C'.at a w) (fr:=fr) (w:=w) (P:=P) (T:=T) (b:=b') (fun j hj => by rw [<- hatG j hj]; exact h.rep (gB + j)) h.nodup h.apart ts him (by omega)
 have hTc:∀ c ∈ Tc,∃ j,c ∈ T (gB + j):=fun c hc => by
  obtain ⟨j,_,_,hj⟩:=r4 c hc
  exact ⟨j,hj⟩
 refine ⟨fun t => if t = gs then b' :: Tc else if gB <= t then [] else T t,h.size,h.defers,fun t ht => ?_,fun t ht => ?_,h.pext,fun t => ?_,fun t => ?_,fun t u htu c hc hc' => ?_,fun t c hc => ?_,h.pin,fun b2 hb2 => by rw [hgb] at hb2; cases hb2⟩
 ·simp only [if_neg (fun e:t = gs => ht (e ▸ hgin))]
  split
  ·rfl
  ·exact h.dom t ht
 ·simp only [if_neg (fun e:t = gs => ht (e ▸ hgin))]
  split
  ·rfl
  ·exact h.tdom t ht
 ·by_cases hts:t = gs
  ·subst hts
   simp only [if_true]
   show RepV C.M (.ptr (.st ts)) w P (.u m) (f ()) (C.at a w t) (b' :: Tc)
   rw [hat t hgs,hv]
   simp only [RepV,RepPt]
   refine ⟨b',cs,Tc,re,rfl,?_,by simpa only [RepC] using r1,by simpa using r3,rfl,o5⟩
   rw [r2]
   exact o4
  ·simp only [if_neg hts]
   by_cases hge:gB <= t
   ·rw [if_pos hge,if_pos hge]; rfl
   ·rw [if_neg hge,if_neg hge]
    have hlt:t < gB:=Nat.lt_of_not_le hge
    obtain ⟨q1,q2⟩:=hon t hts hlt
    rw [hat t hlt]
    refine (h.rep t).mono (Keeps.refl w P _) (fun i hi => ?_) (fun i hi => ⟨?_,fun c _ => .refl w c⟩)
    ·exact hat i (Nat.lt_of_not_le fun hge' => by rw [q2 i hge'] at hi; cases hi)
    ·have hoi:=Ent.on_of_onT hi
     have h1:i ≠ gs:=fun e => by rw [e,q1] at hoi; cases hoi
     have h2:¬ gB <= i:=fun hge' => by rw [q2 i hge'] at hoi; cases hoi
     simp only [if_neg h1,if_neg h2]
 ·split
  ·refine List.nodup_cons.2 ⟨fun hm => ?_,r5⟩
   obtain ⟨j,hj⟩:=hTc b' hm
   exact o3 _ hj
  ·split
   ·exact List.nodup_nil
   ·exact h.nodup t
 ·have key:∀ c,c ∈ b' :: Tc -> ∀ u,u ≠ gs -> u < gB -> c ∉ T u:=fun c hc u hu hul hcu => by
   rcases List.mem_cons.1 hc with rfl | hc
   ·exact o3 u hcu
   ·obtain ⟨j,hj⟩:=hTc c hc
    exact h.apart (gB + j) u (by omega) c hj hcu
  split at hc
  ·rename_i h1
   split at hc'
   ·rename_i h2; exact htu (h1.trans h2.symm)
   ·rename_i h2
    split at hc'
    ·simp at hc'
    ·rename_i h3
     exact key c hc u h2 (Nat.lt_of_not_le h3) hc'
  ·rename_i h1
   split at hc
   ·simp at hc
   ·rename_i h3
    split at hc'
    ·exact key c hc' t h1 (Nat.lt_of_not_le h3) hc
    ·split at hc'
     ·simp at hc'
     ·exact h.apart t u htu c hc hc'
 ·split at hc
  ·rcases List.mem_cons.1 hc with rfl | hc
   ·exact ⟨o1,o2⟩
   ·obtain ⟨j,hj⟩:=hTc c hc
    exact h.new _ c hj
  ·split at hc
   ·simp at hc
   ·exact h.new t c hc
end
theorem Qj {S:Type} (s:S) (x:Ex S) (t:Ty):implL (x.at s) t = (implL x t).map fun q => (q.1,fun _ => q.2 s):=by
 obtain ⟨e,f⟩:=x
 cases e <;> try rfl
 rename_i t' m
 simp only [implL,Ex.at]
 cases Ty.same t' t with
 | none => rfl
 | some k =>
  obtain ⟨k⟩:=k
  subst k
  rfl
mutual
theorem Ah8 {S:Type} (s:S) (g:Nat -> Ex S):(t:Ty) -> (o:Nat) -> impl (atF s g) t o = (impl g t o).map fun q => (q.1,fun _ => q.2 s)
 | .st ts,o => Vx s g ts o
 | .int k,o => Qj s (g (gB + o)) (.int k)
 | .bool,o => Qj s (g (gB + o)) .bool
 | .str,o => Qj s (g (gB + o)) .str
 | .sl e t,o => Qj s (g (gB + o)) (.sl e t)
 | .ptr t,o => Qj s (g (gB + o)) (.ptr t)
 | .fn _ _,_ => rfl
 | .tup _,_ => rfl
theorem Vx {S:Type} (s:S) (g:Nat -> Ex S):(ts:List Ty) -> (o:Nat) -> impls (atF s g) ts o = (impls g ts o).map fun q => (q.1,fun _ => q.2 s)
 | [],_ => rfl
 | t :: ts,o => by
  simp only [impls]
  rw [Ah8 s g t o,Vx s g ts (o + t.size)]
  cases impl g t o with
  | none => rfl
  | some q =>
   cases impls g ts (o + t.size) with
   | none => rfl
   | some q' => rfl
end
def keepB (gs:Nat) (p:Nat × Ent):Bool:=p.1 != gs && !isG p.1 && !p.2.on gs && (match p.2 with | .pl i _ _ _ | .av i _ _ _ | .pa i _ _ _ => !isG i | .pb _ _ => false | _ => true)
theorem Ag5 {gs:Nat} {p:Nat × Ent} (h:keepB gs p = true):p.1 ≠ gs /\ p.1 < gB /\ p.2.on gs = false /\ ∀ i,gB <= i -> p.2.on i = false:=by
 unfold keepB at h
 simp only [Bool.and_eq_true,bne_iff_ne,ne_eq,Bool.not_eq_true'] at h
 obtain ⟨⟨⟨h1,h2⟩,h3⟩,h4⟩:=h
 refine ⟨h1,isG_no.1 h2,h3,fun i hi => ?_⟩
 obtain ⟨t,e⟩:=p
 cases e <;> simp only [Bool.not_eq_true',Bool.false_eq_true] at h4 <;> simp only [Ent.on] <;> (have:=isG_no.1 h4; simp; omega)
def CR.post {Γ:Ctx} (r:CR Γ) (Δ:Ctx) (ρ:Env r.Δ -> Env Δ):CR Γ:=⟨Δ,fun s => (r.f s).bind fun e => some (ρ e),fun s k => r.g s fun e => k (ρ e),fun s k => by rw [r.ok]; cases r.f s <;> rfl⟩
theorem N0 {gs:Nat} {Γ:Ctx} (hΓ:∀ p ∈ Γ,keepB gs p = true) (s:Env Γ) (t:Nat):(dyn Γ s t = Ex.non \/ (t ≠ gs /\ t < gB)) /\ (dyn Γ s t).1.on gs = false /\ ∀ i,gB <= i -> (dyn Γ s t).1.on i = false:=by
 by_cases hn:(Γ.get t).1 = .non
 ·have e:(dyn Γ s t).1 = .non:=hn
  have e':dyn Γ s t = Ex.non:=by
   generalize dyn Γ s t = x at e
   obtain ⟨e0,f⟩:=x
   simp only at e
   subst e
   rfl
  rw [e']
  exact ⟨.inl rfl,rfl,fun _ _ => rfl⟩
 ·have hk:=Ag5 (hΓ _ (mem_get hn))
  exact ⟨.inr ⟨hk.1,hk.2.1⟩,hk.2.2.1,hk.2.2.2⟩
def cin (dr:Bool) (Tb:Tab) (n:Nat) (ops:Array Oper) (ks:List Nat) (Γ:Ctx):Option (CR Γ):=if dr = true then cany Tb n ops ks Γ else cops Tb n ops ks (8 * ops.size + 8) ops.toList Γ
def cexp (dr:Bool) (Tb:Tab) (n:Nat) (ops:Array Oper) (ks:List Nat) (Γ:Ctx) (gs:Nat):Option (CR Γ):=
 match Γ.get gs with
 | ⟨.val (.ptr (.st ts)) (.u m),f⟩ =>
  if !isG gs && Nat.ble (Ty.sizes ts) 64 then
   match expls ts m 0 (show Env Γ -> Ty.dens ts from f),weakTo Γ.get (Γ.filter (keepB gs)) with
   | some L,some ρ =>
    let c:CE (Env Γ):=CE.sets ⟨Γ.filter (keepB gs),ρ⟩ ((gs,⟨.pb 0 (.st ts),fun _ => ()⟩) :: L)
    match cin dr Tb n ops (gs :: (L.map (·.1) ++ ks)) c.Γ with
    | some r => match (r.Δ.get gs).1 with
     | .pb 0 (.st ts') => match Ty.sames ts' ts,impls r.Δ.get ts 0,weakTo r.Δ.get (r.Δ.filter (keepB gs)) with
      | some _,some (m',f'),some ρ' => some ((CR.pre c.ρ r).post ((gs,.val (.ptr (.st ts)) (.u m')) :: r.Δ.filter (keepB gs)) fun e => (f' e,ρ' e))
      | _,_,_ => none
     | _ => none
    | none => none
   | _,_ => none
  else none
 | _ => none
mutual
theorem Aey {g g':Fr} (h:∀ j t,implL (g (gB + j)) t = implL (g' (gB + j)) t):(t:Ty) -> (o:Nat) -> impl g t o = impl g' t o
 | .st ts,o => Rx h ts o
 | .int k,o => h o (.int k)
 | .bool,o => h o .bool
 | .str,o => h o .str
 | .sl e t,o => h o (.sl e t)
 | .ptr t,o => h o (.ptr t)
 | .fn _ _,_ => rfl
 | .tup _,_ => rfl
theorem Rx {g g':Fr} (h:∀ j t,implL (g (gB + j)) t = implL (g' (gB + j)) t):(ts:List Ty) -> (o:Nat) -> impls g ts o = impls g' ts o
 | [],_ => rfl
 | t :: ts,o => by
  simp only [impls]
  rw [Aey h t o,Rx h ts (o + t.size)]
end
section
variable {C:Cx} {a:Act} {w:World} {P:Prot} {T:Nat -> List Nat}
theorem Afb {Q:Exit -> Act -> World -> Prop} (hm:C.M.follows .mixedOrders = true) {Tb:Tab} (hT:TabOk C.M Tb) (hsg:∀ f s,Tb.sg f = some s -> SigR C.M C.w0 C.P0 f s) (hpin:∀ t,Tb.pin t = false -> C.pv t = none) {dr:Bool} {id:Nat} {ops:Array Oper} {ks:List Nat} {Γ:Ctx} {r:CR Γ}
  (hc:cin dr Tb C.n ops ks Γ = some r) {s:Env Γ} {s':Env r.Δ} (hf:r.f s = some s') (h:Sim C (dyn Γ s) a w P T)
  (hQ:∀ a' w' P' T',Sim C (dyn r.Δ s') a' w' P' T' -> Q .normal a' w'):(Code.region id ops dr).wp C.M Q a w:=by
 unfold cin at hc
 cases dr with
 | true => rw [if_pos rfl] at hc; exact P4 hm hT hsg hpin hc hf h hQ
 | false => rw [if_neg (by simp)] at hc; exact Us hT hsg hpin hc hf h hQ
theorem Ad3 {Q:Exit -> Act -> World -> Prop} (hm:C.M.follows .mixedOrders = true) (hgb:C.gb = none) {Tb:Tab} (hT:TabOk C.M Tb) (hsg:∀ f s,Tb.sg f = some s -> SigR C.M C.w0 C.P0 f s) (hpin:∀ t,Tb.pin t = false -> C.pv t = none) {dr:Bool} {id:Nat} {ops:Array Oper} {ks:List Nat} {Γ:Ctx} {gs:Nat} {r:CR Γ}
  (hc:cexp dr Tb C.n ops ks Γ gs = some r) {s:Env Γ} {s':Env r.Δ} (hf:r.f s = some s') (h:Sim C (dyn Γ s) a w P T)
  (hQ:∀ a' w' P' T',Sim C (dyn r.Δ s') a' w' P' T' -> Q .normal a' w'):(Code.region id ops dr).wp C.M Q a w:=by
 unfold cexp at hc
 split at hc
 ·rename_i ts m f heq
  split at hc
  ·rename_i hcond
   rw [Bool.and_eq_true,Bool.not_eq_true'] at hcond
   have hgs:gs < gB:=isG_no.1 hcond.1
   have h64:Ty.sizes ts <= 64:=Nat.le_of_ble_eq_true hcond.2
   split at hc
   ·rename_i L ρ hL hρ
    simp only at hc
    split at hc
    ·rename_i r0 hr0
     split at hc
     ·rename_i ts' hpb
      split at hc
      ·rename_i _ m' f' ρ' hsame him hρ'
       have hts:ts' = ts:=PLift.down (by assumption)
       subst hts
       cases hc
       obtain ⟨e,hre,hf⟩:=bind_some hf
       cases hf
       have hΓk:∀ p ∈ Γ.filter (keepB gs),keepB gs p = true:=fun p hp => (List.mem_filter.1 hp).2
       have hwk:=Kk s hρ
       have hgsv:dyn Γ s gs = ⟨.val (.ptr (.st ts')) (.u m),fun _ => f s⟩:=by unfold dyn; rw [heq]; rfl
       -- only what stays
       obtain ⟨P0,T0,h0⟩:=h.weak (fr':=fun t => if t = gs then dyn Γ s gs else dyn _ (ρ s) t) ⟨fun t => by
        by_cases ht:t = gs
        ·subst ht; simp only [if_true]; exact Wk.refl _
        ·simp only [if_neg ht]; exact hwk.wk t,fun t i hi => by
        by_cases ht:t = gs
        ·subst ht
         simp only [if_true] at hi
         rw [hgsv] at hi
         cases hi
        ·simp only [if_neg ht] at hi
         have hne:i ≠ gs:=fun e => by
          have:=(N0 hΓk (ρ s) t).2.1
          rw [e] at hi
          rw [Ent.on_of_onT hi] at this
          cases this
         simp only [if_neg hne]
         exact hwk.hang t i hi⟩
       obtain ⟨b,T1,h1⟩:=h0.explode hgb hgs (f:=fun _ => f s) (by simp only [if_true]; exact hgsv) (fun t ht => by simp only [if_neg ht]; exact (N0 hΓk (ρ s) t).2) (fun t ht => by
        have hne:t ≠ gs:=fun e => by omega
        simp only [if_neg hne]
        rcases (N0 hΓk (ρ s) t).1 with e | e
        ·exact e
        ·omega) (s:=s) (F:=f) rfl hL h64
       have hfr:app (fun t => if t = gs then dyn Γ s gs else dyn _ (ρ s) t) ((gs,⟨.pb 0 (.st ts'),fun _ => ()⟩) :: usAt s L) = (CE.sets ⟨Γ.filter (keepB gs),ρ⟩ ((gs,⟨.pb 0 (.st ts'),fun _ => ()⟩) :: L)).fr s:=by
        rw [CE.sets_fr]
        funext t
        refine Si ?_
        by_cases ht:t = gs
        ·exact .inr (by rw [ht]; simp [wdom])
        ·exact .inl (if_neg ht)
       rw [hfr] at h1
       refine Afb (C:={ C with gb:=some b,gn:=Ty.sizes ts' }) hm hT hsg hpin hr0 hre h1 fun a' w' P' T' h2 => ?_
       -- together again
       have hΔk:∀ p ∈ r0.Δ.filter (keepB gs),keepB gs p = true:=fun p hp => (List.mem_filter.1 hp).2
       have hwk':=Kk e hρ'
       have hpbv:∃ f0,dyn r0.Δ e gs = ⟨.pb 0 (.st ts'),f0⟩:=by
        have e1:(dyn r0.Δ e gs).1 = .pb 0 (.st ts'):=hpb
        generalize dyn r0.Δ e gs = x at e1
        obtain ⟨e0,f⟩:=x
        simp only at e1
        subst e1
        exact ⟨f,rfl⟩
       obtain ⟨f0,hf0⟩:=hpbv
       obtain ⟨P3,T3,h3⟩:=h2.weak (fr':=fun t => if t = gs then dyn r0.Δ e gs else if gB <= t then (if (dyn r0.Δ e t).1.own then dyn r0.Δ e t else Ex.non) else dyn _ (ρ' e) t) ⟨fun t => by
        by_cases ht:t = gs
        ·subst ht; simp only [if_true]; exact Wk.refl _
        ·simp only [if_neg ht]
         by_cases hg:gB <= t
         ·simp only [if_pos hg]
          split
          ·exact Wk.refl _
          ·exact Wk.non _
         ·simp only [if_neg hg]; exact hwk'.wk t,fun t i hi => by
        by_cases ht:t = gs
        ·subst ht
         simp only [if_true] at hi
         rw [hf0] at hi
         cases hi
        ·simp only [if_neg ht] at hi
         by_cases hg:gB <= t
         ·simp only [if_pos hg] at hi
          split at hi
          ·rename_i ho
           have:=Ent.own_on ho i
           rw [Ent.on_of_onT hi] at this
           cases this
          ·cases hi
         ·simp only [if_neg hg] at hi
          have hd:=(N0 hΔk (ρ' e) t).2
          have hne:i ≠ gs:=fun e' => by
           have:=hd.1
           rw [e'] at hi
           rw [Ent.on_of_onT hi] at this
           cases this
          have hlt:¬ gB <= i:=fun hge => by
           have:=hd.2 i hge
           rw [Ent.on_of_onT hi] at this
           cases this
          simp only [if_neg hne,if_neg hlt]
          exact hwk'.hang t i hi⟩
       have him':impls (fun t => if t = gs then dyn r0.Δ e gs else if gB <= t then (if (dyn r0.Δ e t).1.own then dyn r0.Δ e t else Ex.non) else dyn (r0.Δ.filter (keepB gs)) (ρ' e) t) ts' 0 = some (m',fun _ => f' e):=by
        have e1:impls (atF (show Env r0.Δ from e) r0.Δ.get) ts' 0 = some (m',fun _ => f' e):=(Vx (show Env r0.Δ from e) r0.Δ.get ts' 0).trans (by rw [him]; rfl)
        rw [<- e1]
        refine Rx (fun j t => ?_) ts' 0
        have hne:gB + j ≠ gs:=by omega
        simp only [if_neg hne,if_pos (Nat.le_add_right gB j)]
        show implL (if (dyn r0.Δ e (gB + j)).1.own = true then _ else _) t = implL (dyn r0.Δ e (gB + j)) t
        generalize dyn r0.Δ e (gB + j) = x
        obtain ⟨e0,f⟩:=x
        cases e0 <;> rfl
       obtain ⟨T4,h4⟩:=h3.implode hgb hgs (by simp only [if_true]; exact hf0) (fun t ht hlt => by
        simp only [if_neg ht,if_neg (Nat.not_le_of_lt hlt)]
        exact (N0 hΔk (ρ' e) t).2) him' h64
       refine hQ a' w' P3 T4 ?_
       have hfin:(fun t => if t = gs then (⟨.val (.ptr (.st ts')) (.u m'),fun _ => f' e⟩:Ex Unit) else if gB <= t then Ex.non else (if t = gs then dyn r0.Δ e gs else if gB <= t then (if (dyn r0.Δ e t).1.own then dyn r0.Δ e t else Ex.non) else dyn (r0.Δ.filter (keepB gs)) (ρ' e) t)) = dyn ((gs,.val (.ptr (.st ts')) (.u m')) :: r0.Δ.filter (keepB gs)) (f' e,ρ' e):=by
        funext t
        by_cases ht:t = gs
        ·subst ht
         simp only [if_true]
         simp only [dyn,Ctx.get,if_true]; rfl
        ·simp only [if_neg ht]
         refine Eq.trans ?_ (dyn_ne (p:=(gs,.val (.ptr (.st ts')) (.u m'))) (Ne.symm ht)).symm
         by_cases hg:gB <= t
         ·simp only [if_pos hg]
          rcases (N0 hΔk (ρ' e) t).1 with e1 | e1
          ·exact e1.symm
          ·omega
         ·simp only [if_neg hg]
       exact hfin ▸ h4
      ·cases hc
     ·cases hc
    ·cases hc
   ·cases hc
  ·cases hc
 ·cases hc
end
end Go.Abs
