/-
  slices.Concat at lists of numbers: its walk. No condition.
-/
import Derived.Test.YtbkefganebmlnaaGreatDoorN42
import Derived.Test.YtbkefganebmlnaaGreatDoorP2
import Derived.Shelf.Spec.SlicesGrow
namespace Go.Proofs
set_option linter.unusedVariables false
set_option linter.unusedSimpArgs false
open Go.RowKit Go.Abs Go.Shelf
def Tryz.layG_ren:Go.Shelf.Ren:=⟨fun | 4 => 145 | n => n,fun | 22 => 25 | 25 => 3 | n => n,fun n => n⟩
theorem Tryz.layG:Lays8.n4 Tryz.prog Tryz.layG_ren:={
  mixed:=by kernel_rfl
  f4 := ⟨"slices.Grow[[]int,int]", by decide, Tryz.func145.trans (congrArg some (by kernel_rfl))⟩
  t0:=Tryz.underlying0
  a0:=Tryz.isAgg0
  z0:=Tryz.sizeOf0
  v0:=Tryz.zeroValue0
  t3:=Tryz.underlying3
  a3:=Tryz.isAgg3
  z3:=Tryz.sizeOf3
  v3:=Tryz.zeroValue3
  t4:=Tryz.underlying4
  a4:=Tryz.isAgg4
  z4:=Tryz.sizeOf4
  v4:=Tryz.zeroValue4
  t9:=Tryz.underlying9
  a9:=Tryz.isAgg9
  z9:=Tryz.sizeOf9
  v9:=Tryz.zeroValue9
  t20:=Tryz.underlying20
  a20:=Tryz.isAgg20
  z20:=Tryz.sizeOf20
  v20:=Tryz.zeroValue20
  t22:=Tryz.underlying25
  a22:=Tryz.isAgg25
  z22:=Tryz.sizeOf25
  v22:=Tryz.zeroValue25 }
abbrev ilU:Ty:=.sl 3 (.int .i64)
theorem Ah6 {M:Program} {w:World} {P:Prot} {xs:List (List Int)} {v:Value} (h:RepV M (.sl 25 ilU) w P .p xs v []) :
    ∃ a cap,v = .slice a xs.length cap /\ xs.length <= cap /\ (∀ (i:Nat) (x:List Int),xs[i]? = some x -> ∃ b o u,a = some ⟨b,o,none⟩ /\ w.cell? ⟨b,o + i,none⟩ = some u /\ P b (o + i) /\ RepV M ilU w P .p x u []):=by
  simp only [RepV] at h
  obtain ⟨-,⟨rfl,a,rfl⟩ | ⟨b,off,cap,cells,rfl,hcp,hL,hcl,hcs⟩⟩:=h
  · exact ⟨a,0,rfl,Nat.le_refl _,fun i x hi => by cases i <;> cases hi⟩
  · refine ⟨_,cap,rfl,hcp,fun i x hi => ?_⟩
    obtain ⟨T',hR,hs,hle⟩:=repL_at (size:=1) (fun x cs T h => (RepC.length ilU h).1) hL hi
    obtain rfl:=List.sublist_nil.1 hs
    simp only [RepC] at hR
    obtain ⟨u,hu,hR⟩:=hR
    refine ⟨b,off,u,rfl,(hcs i u ?_).1,(hcs i u ?_).2,hR⟩ <;>
    · have:=congrArg (fun l:List Value => l[0]?) hu
      simpa [List.getElem?_take,List.getElem?_drop] using this
theorem ints_at {M:Program} {w:World} {P:Prot} {xs:List Int} {v:Value} (h:RepV M ilU w P .p xs v []) :
    ∃ a cap,v = .slice a xs.length cap /\ xs.length <= cap /\ Second w v xs.length (xs.map fun x => .int .i64 x):=by
  simp only [RepV] at h
  obtain ⟨-,⟨rfl,a,rfl⟩ | ⟨b,off,cap,cells,rfl,hcp,hL,hcl,hcs⟩⟩:=h
  · refine ⟨a,0,rfl,Nat.le_refl _,a,0,rfl,?_⟩
    cases a with
    | none => exact .inl ⟨rfl,rfl,rfl⟩
    | some a => exact .inr ⟨a,rfl,fun j u hj => by cases j <;> cases hj⟩
  · have hc:cells = xs.map fun x => .int .i64 x:=by
      clear hcs hcl hcp
      induction xs generalizing cells with
      | nil => exact hL.1
      | cons x xs ih =>
        obtain ⟨c1,c2,T1,T2,rfl,hT,h1,h2⟩:=hL
        obtain ⟨rfl,rfl⟩:=List.append_eq_nil_iff.1 hT.symm
        simp only [RepC] at h1
        obtain ⟨rfl,-⟩:=h1
        rw [ih _ h2]
        rfl
    subst hc
    exact ⟨_,cap,rfl,hcp,_,cap,rfl,.inr ⟨_,rfl,fun j u hj => by rw [Addr.add_mk]; exact (hcs j u hj).1⟩⟩
theorem app_own {M:Program} {wa w:World} {Pa P:Prot} {t ty:TypeId} (hk:TyOk M t ilU) {xs ys:List Int} {vx vy:Value} {T:List Nat} (hext:PExt [] wa Pa w P) (hr:RepV M ilU w P (.u .p) xs vx T) (hy:RepV M ilU w P .p ys vy [])
    (hT:∀ b ∈ T,wa.heap.size <= b /\ b < w.heap.size) (hl:xs.length + ys.length <= room) :
    ∃ v' w' T',(Builtin.append_ #[t,t] ty #[vx,vy]).run M w = .ok v' w' /\ PExt [] wa Pa w' P /\ Later w P w' P /\ RepV M ilU w' P (.u .p) (xs ++ ys) v' T' /\ (∀ b ∈ T',wa.heap.size <= b /\ b < w'.heap.size) /\ T'.Nodup:=by
  obtain ⟨ay,cy,rfl,hcy,ad,cap',e,hadr⟩:=ints_at hy
  cases e
  obtain ⟨v',w',hrun,hres⟩:=X6 (ty:=ty) (ad:=ay) (m:=ys.length) (cap':=cy) (news:=ys.map fun x => .int .i64 x) hk hr hl (by simp [Ty.size]) (by
    rcases hadr with ⟨h1,h2,h3⟩ | h
    · exact .inl ⟨h1,h2,h3⟩
    · exact .inr h) (by simp [Value.oneCell'])
  rcases hres with ⟨rfl,h1,h2,rfl,rfl⟩ | ⟨b',cap2,cells,Tc,rfl,hle,hmx,hrow,hin,hrl,hcl,hcase⟩
  · have e1:xs = []:=h1
    have e2:ys = []:=List.length_eq_zero_iff.1 h2
    subst e1; subst e2
    exact ⟨_,_,[],hrun,hext,⟨Nat.le_refl _,fun _ _ h => h,fun _ _ _ _ h => h,fun _ _ _ _ => rfl⟩,by simp only [RepV]; exact .inl ⟨rfl,rfl,rfl⟩,by simp,List.nodup_nil⟩
  · have hb:(∃ bo,Grown w w' bo /\ (∀ k,bo = some k -> k = b' /\ k ∈ T)) /\ wa.heap.size <= b' /\ (∀ o,¬ P b' o) /\ b' < w'.heap.size:=by
      rcases hcase with ⟨rfl,hg,hs,hf⟩ | ⟨rfl,hs,-,hg⟩
      · exact ⟨⟨_,hg,fun k hk => by cases hk; exact ⟨rfl,by simp⟩⟩,(hT b' (by simp)).1,hf,by have:=(hT b' (by simp)).2; omega⟩
      · exact ⟨⟨_,hg,fun k hk => by cases hk⟩,hext.size,fun o ho => absurd (prot_lt hext.there ho) (Nat.lt_irrefl _),by omega⟩
    obtain ⟨⟨bo,hg,hbo⟩,hbw,hbf,hbl⟩:=hb
    have hkeep:∀ b,b < w.heap.size -> b ∉ T -> w'.heap[b]? = w.heap[b]?:=fun b hb hbT => hg.block b hb fun e => hbT (hbo b e.symm).2
    have hPk:∀ b o,P b o -> w'.heap[b]? = w.heap[b]?:=fun b o hp => hg.block b (prot_lt hext.there hp) fun e => hbf o ((hbo b e.symm).1 ▸ hp)
    have hL:Later w P w' P:=⟨hg.size,fun b o hp => hp,fun b o v hp hv => by rw [World.cell?_of_block (hPk b o hp)]; exact hv,fun b o _ hp => hPk b o hp⟩
    refine ⟨_,w',[b'],hrun,⟨hg.os.trans hext.os,hg.tape.trans hext.tape,hg.output.trans hext.output,Nat.le_trans hext.size hg.size,fun k hk hn => ?_,by simp,fun b o hp => hext.prot b o hp,fun b o hp => hext.old b o hp,fun b o hp => ?_⟩,hL,?_,?_,by simp⟩
    · rw [hkeep k (Nat.lt_of_lt_of_le hk hext.size) fun h => by have:=(hT k h).1; omega]
      exact hext.block k hk hn
    · obtain ⟨v,hv⟩:=hext.there b o hp
      exact ⟨v,hL.cell b o v hp hv⟩
    · have hl2:(xs ++ ys).length = xs.length + ys.length:=by simp
      simp only [RepV]
      refine .inr ⟨b',cap2,cells ++ ys.map fun x => .int .i64 x,[],congrArg (fun m => Value.slice (some ⟨b',0,none⟩) m cap2) hl2.symm,Nat.le_trans (Nat.le_of_eq hl2) hle,hmx,hrow,RepL.join (T1:=[]) (T2:=[]) (RepL.flat (t:=.int .i64) rfl hrl) ?_,?_,hin,rfl,hbf⟩
      · clear hadr hl hl2 hin hle hrow hrun hy hcy
        induction ys with
        | nil => exact ⟨rfl,rfl⟩
        | cons y ys ih => exact ⟨[_],_,[],[],rfl,rfl,by simp [RepC],ih⟩
      · have e1:cells.length = (List.length (α:=Int) xs) * 1:=hcl
        have e2:(cells ++ ys.map fun x => Value.int .i64 x).length = cells.length + ys.length:=by simp
        exact e2.trans ((by omega:cells.length + ys.length = (List.length (α:=Int) xs + ys.length) * 1).trans (congrArg (· * 1) hl2.symm))
    · intro b hb
      simp at hb
      subst hb
      exact ⟨hbw,hbl⟩
theorem Ah0 {hT:TyOk Tryz.prog 25 ilU} {n:Nat} (hn:n <= 1000000) {wa w:World} {Pa P:Prot} (hext:PExt [] wa Pa w P) :
    Calls Tryz.prog 145 #[.slice none 0 0,.int .i64 (n:Int)] w fun e w' => ∃ v T,e = .returned v /\ PExt [] wa Pa w' P /\ RepV Tryz.prog ilU w' P (.u .p) [] v T /\ (∀ b ∈ T,wa.heap.size <= b /\ b < w'.heap.size) /\ T.Nodup:=by
  obtain ⟨hu,i,zz,hi,hzi,hsz,hzs,hpos,hby,hzv,hel⟩:=hT
  have hs1:i.size = 1:=hsz
  have hz1:zz.cells.size = 1:=hzs
  by_cases h0:n = 0
  · subst h0
    refine (Any8.slices_Grow_room Tryz.layG none 0 0 0 w (by omega) (by omega) (by omega) (by omega)).mono ?_
    rintro e w' ⟨rfl,rfl⟩
    exact ⟨_,[],rfl,hext,by simp only [RepV]; exact .inl ⟨rfl,rfl,rfl⟩,by simp,List.nodup_nil⟩
  · have hbig:(0 + n) * i.bytes <= 140737488355328:=by
      have:=Nat.mul_le_mul hn hby
      rw [Nat.zero_add]
      omega
    refine (Any8.slices_Grow_grow Tryz.layG i zz hi hzi (by omega) none 0 0 n [] w (by omega) (by omega) hbig (by omega) (by simp) (fun _ => rfl) (fun a h => by cases h)).mono ?_
    rintro e w' ⟨rfl,rfl⟩
    have hge:=grownCap_ge w (0 + n) 0 (Tryz.layG_ren.t 25)
    have hcm:grownCap w (0 + n) 0 (Tryz.layG_ren.t 25) <= maxLen:=grownCap_le_maxLen w (0 + n) 0 _ (by unfold maxLen; omega)
    generalize grownCap w (0 + n) 0 (Tryz.layG_ren.t 25) = cap at *
    have hq:=hext.trans0 (St hext.there)
    have hsd:w.drew.heap.size = w.heap.size:=rfl
    refine ⟨_,[w.heap.size],rfl,pext_al hq _,?_,fun b hb => ?_,by simp⟩
    · simp only [RepV]
      refine .inr ⟨w.heap.size,cap,[],[],rfl,Nat.zero_le _,hcm,⟨_,heap_alloc_new w.drew _,?_⟩,⟨rfl,rfl⟩,rfl,(fun j v hj => by simp at hj),rfl,fun o ho => absurd (prot_lt hext.there ho) (Nat.lt_irrefl _)⟩
      simp only [Array.size_append,List.size_toArray,size_zeroCells,hz1,List.length_nil,Ty.size]
      omega
    · simp at hb
      subst hb
      exact ⟨hext.size,by rw [size_al]; omega⟩
theorem Aiu {M:Program} {wa w:World} {Pa P:Prot} {ops:Array Oper} {o:Oper} {a:Act} {K:Act -> World -> Prop} {Q:Exit -> Act -> World -> Prop} {E:Prop} (hgd:o.guard = none) (s x:Operand) (t:TypeId)
    (ho:o.op = .call { callee:=.builtin .append,args:=#[s,x],argTypes:=#[t,t] }) (hk:TyOk M t ilU) {xs ys:List Int} {vx vy:Value} {T:List Nat} (hs:a.eval s = vx) (hx:a.eval x = vy) (hext:PExt [] wa Pa w P) (hr:RepV M ilU w P (.u .p) xs vx T) (hy:RepV M ilU w P .p ys vy [])
    (hT:∀ b ∈ T,wa.heap.size <= b /\ b < w.heap.size) (hl:xs.length + ys.length <= room)
    (h:∀ v' w' T',PExt [] wa Pa w' P -> Later w P w' P -> RepV M ilU w' P (.u .p) (xs ++ ys) v' T' -> (∀ b ∈ T',wa.heap.size <= b /\ b < w'.heap.size) /\ T'.Nodup -> K (a.put o.dst v') w') :
    if Region.wanted o (yielded ops a.tmps) = true then Oper.wp M o a w K Q else E:=by
  have hw:Region.wanted o (yielded ops a.tmps) = true:=by simp [Region.wanted,hgd]
  rw [if_pos hw]
  obtain ⟨v',w',T',h1,h2,h3,h4,h5⟩:=app_own (M:=M) (ty:=o.type) hk hext hr hy hT hl
  unfold Oper.wp execOp
  simp only [ho,resolve,invoke,builtin,Sem.run_bind,Sem.run_pure,Result.andThen_ok,List.map_toArray,List.map_cons,List.map_nil,hs,hx,h1]
  exact h v' w' T' h2 h3 h4 h5
theorem flat_le {xs:List (List Int)} {m:Nat} (h:∀ l ∈ xs,l.length <= m):xs.flatten.length <= xs.length * m:=by
  induction xs with
  | nil => simp
  | cons x xs ih =>
    have h1:=h x (by simp)
    have h2:=ih fun l hl => h l (by simp [hl])
    simp only [List.flatten_cons,List.length_append,List.length_cons,Nat.add_mul]
    omega
theorem Z1 {xs:List (List Int)} {j:Nat} {x:List Int} (h:xs[j]? = some x):(xs.take (j + 1)).flatten = (xs.take j).flatten ++ x:=by
  rw [List.take_add_one,h]
  simp
set_option maxRecDepth 100000 in
set_option maxHeartbeats 4000000 in
theorem Tryz.conc_ok {B:Base} (hT:TyOk Tryz.prog 25 ilU):SigB B Tryz.prog 73 (concS 25 3):=by
  refine ⟨⟨Tryz.f73,Tryz.func73,by decide,rfl⟩,fun w P xs ys vs caps Ti y hb ht hv hTi hTp hcap hy => ?_⟩
  obtain ⟨ls,u⟩:=xs
  change List (List Int) at ls
  cases u
  change List Int × Unit at y
  replace hv:ArgsR Tryz.prog w P .p none [.sl 25 ilU] (ls,()) vs Ti:=hv
  replace hcap:caps = []:=hcap
  replace hy:concF 25 3 (ls,()) ys = some y:=hy
  simp only [ArgsR] at hv
  obtain ⟨v0,r,rfl,h0,rfl,rfl⟩:=hv
  subst hcap
  unfold concF at hy
  have hlim:ls.length <= 1000 /\ ∀ l ∈ ls,l.length <= 1000:=by
    by_cases h:ls.length <= 1000 /\ ∀ l ∈ ls,l.length <= 1000
    · exact h
    · exfalso
      have hy':=hy
      rw [if_neg h] at hy'
      cases hy'
  rw [if_pos hlim] at hy
  have hyy:(ls.flatten,()) = y:=Option.some.inj hy
  subst hyy
  obtain ⟨a,cap,rfl,hcp,hat⟩:=Ah6 h0
  have hfl:∀ j,(ls.take j).flatten.length <= 1000000:=fun j => by
    have:=flat_le (xs:=ls.take j) (m:=1000) fun l hl => hlim.2 l (List.mem_of_mem_take hl)
    have h2:(ls.take j).length <= 1000:=Nat.le_trans (by simp; omega) hlim.1
    have:=Nat.mul_le_mul_right 1000 h2
    omega
  obtain ⟨L,hL⟩:∃ L:Nat -> Nat,∀ j,L j = (ls.take j).flatten.length:=⟨_,fun _ => rfl⟩
  have hL0:L 0 = 0:=by rw [hL]; rfl
  have HL:=AsideQ.mk hL
  have HF:=AsideQ.mk hfl
  have HA:=AsideQ.mk hat
  have HT:=AsideQ.mk hT
  have HX:=AsideQ.mk (PExt.refl ht)
  have hn:ls.length < 1001:=by omega
  clear hy hb hT hTi hTp hlim hfl hat h0 hL
  generalize hnl:ls.length = n at *
  go_enter Tryz.func73,Tryz.ntmps73
  go_wp2
  go_loopg [3,11] n (fun k s3 s11 wr => ∃ (j:Nat),s3 = .int .i64 (L j:Int) /\ s11 = .int .i64 (j:Int) /\ w = wr /\ AsideQ (j + k = n))
  case atStart => exact ⟨0,by rw [hL0]; rfl,rfl,rfl,⟨by omega⟩⟩
  case round =>
    obtain ⟨j,rfl,rfl,hw,Y⟩:=hrel
    subst hw
    cases gk with
    | zero =>
      obtain rfl:j = n:=by have:=Y.out; omega
      have hj:¬ ((j:Int) < (j:Int)):=by omega
      have htk:ls.take j = ls:=by rw [<- hnl]; exact List.take_length
      have hm:L j <= 1000000:=by rw [HL.out]; exact HF.out j
      have hG:=Ah0 (hT:=HT.out) hm HX.out
      clear Y htk hm
      generalize L j = m at *
      go_wp2_with fail
      refine hG.mono ?_
      rintro e w1 ⟨v,T,rfl,p1,r1,t1⟩
      have P1:=AsideQ.mk p1
      have R1:=AsideQ.mk r1
      have T1:=AsideQ.mk t1
      clear p1 r1 t1 hG
      go_wp2
      go_loopg [6,27] j (fun k s6 s27 wr => ∃ (i:Nat) (T:List Nat),s27 = .int .i64 (i:Int) /\ AsideQ (i + k = j /\ PExt [] w P wr P /\ RepV Tryz.prog ilU wr P (.u .p) (ls.take i).flatten s6 T /\ (∀ b ∈ T,w.heap.size <= b /\ b < wr.heap.size) /\ T.Nodup))
      case atStart => exact ⟨0,T,rfl,⟨by omega,P1.out,R1.out,T1.out⟩⟩
      case round =>
        obtain ⟨i,T,rfl,Y⟩:=hrel
        cases gk with
        | zero =>
          obtain rfl:i = j:=by have:=Y.out.1; omega
          have hj:¬ ((i:Int) < (i:Int)):=by omega
          have htk:ls.take i = ls:=by rw [<- hnl]; exact List.take_length
          have R2:=Y.out.2.2.1
          rw [htk] at R2
          have R3:=AsideQ.mk R2
          clear R2
          go_wp2
          go_ret
          refine ⟨_,rfl,P,Y.out.2.1,T,R3.out,[],rfl,by rw [List.append_nil]; exact Y.out.2.2.2.2,fun b hb => ?_⟩
          rcases hb with hb | hb
          · exact Y.out.2.2.2.1 b hb
          · simp at hb
        | succ k =>
          have hj:(i:Int) < (j:Int):=by have:=Y.out.1; omega
          obtain ⟨x,hx⟩:∃ x,ls[i]? = some x:=⟨_,List.getElem?_eq_getElem (by have:=Y.out.1; omega)⟩
          obtain ⟨b,o,u,rfl,hc,hp,hr⟩:=HA.out i x hx
          have hft:=Z1 hx
          have hle:=HF.out (i + 1)
          rw [hft,List.length_append] at hle
          have hjc:i < cap:=by have:=Y.out.1; omega
          have hc2:wr.cell? ⟨b,o + i,none⟩ = some u:=Y.out.2.1.later.cell _ _ _ hp hc
          obtain ⟨v',w',T',hrun,p2,l2,r2,t2⟩:=app_own (M:=Tryz.prog) (t:=25) (ty:=25) HT.out Y.out.2.1 Y.out.2.2.1 (keep_p hr Y.out.2.1.later) Y.out.2.2.2.1 (by rw [room_eq]; omega)
          rw [<- hft] at r2
          have Y2:AsideQ _:=⟨And.intro p2 (And.intro r2 t2)⟩
          clear hr hc hp hft hle l2 p2 r2 t2
          go_wp2_with (at_builtin; refine Lib.wpList_append_run _ rfl _ _ _ _ rfl _ _ rfl rfl _ _ hrun ?_)
          go_roundg k
          case measure => omega
          case rel => exact ⟨i + 1,T',rfl,⟨by have:=Y.out.1; omega,Y2.out.1,Y2.out.2.1,Y2.out.2.2⟩⟩
    | succ k =>
      have hj:(j:Int) < (n:Int):=by have:=Y.out; omega
      obtain ⟨x,hx⟩:∃ x,ls[j]? = some x:=⟨_,List.getElem?_eq_getElem (by have:=Y.out; omega)⟩
      obtain ⟨b,o,u,rfl,hc,hp,hr⟩:=HA.out j x hx
      obtain ⟨ax,cx,rfl,hcx,-⟩:=ints_at hr
      have hft:=Z1 hx
      have hle:=HF.out (j + 1)
      rw [<- HL.out] at hle
      have hft2:L (j + 1) = L j + x.length:=by rw [HL.out,HL.out,hft,List.length_append]
      have hjc:j < cap:=by have:=Y.out; omega
      have hadd:RowKit.wrap64 ((L j:Int) + (x.length:Int)) = (L (j + 1):Nat):=by
        rw [hft2]
        unfold RowKit.wrap64
        omega
      have h0:¬ ((L (j + 1):Int) < 0):=by omega
      clear hr hcx hft
      go_wp2
      go_roundg k
      case measure => omega
      case rel => exact ⟨j + 1,by rw [hft2]; rfl,rfl,rfl,⟨by have:=Y.out; omega⟩⟩
end Go.Proofs
