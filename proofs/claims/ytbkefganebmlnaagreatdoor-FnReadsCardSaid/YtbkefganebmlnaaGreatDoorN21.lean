/-
  The meta layer, part 21: a region whose order is left open comes, in any order, to the frame of the order of the text; the reading of such a region.
-/
import Derived.Test.YtbkefganebmlnaaGreatDoorN20
namespace Go.Abs
open Go.RowKit
set_option linter.unusedVariables false
set_option linter.unusedSimpArgs false
theorem onT_on {e:Ent} {i:Nat} (h:e.onT i = true):e.on i = true:=by cases e <;> simp_all [Ent.on,Ent.onT]
def Free (us wr:List Nat) (fr:Fr):Prop:=∀ t,t ∉ wr -> ∀ i ∈ us,(fr t).1.onT i = false
def FreeD (dst:Option Nat) (wr:List Nat) (fr:Fr):Prop:=∀ t,t ∉ wr -> ∀ d,dst = some d -> (fr t).1.on d = false
def DropD (dst:Option Nat) (us dd:List Nat) (fr:Fr):Prop:=∀ t ∈ dd,t ∉ us /\ ∃ d,dst = some d /\ t ≠ d /\ (fr t).1.on d = true
def nonW (dd:List Nat):WS:=dd.map fun t => (t,Ex.non)
inductive OpW (Tb:Tab) (n:Nat) (ops:Array Oper) (dl dd:List Nat) (o:Oper) (fr:Fr):List Nat -> Ent -> WS -> Prop
  | run (r:Res Unit) (y:r.X):runs ops fr o = some true -> xop Tb dl fr o = some r -> chk n Tb.pin [] fr o.dst r = true -> r.run () = some y -> Free (r.us.map (·.1)) (r.us.map (·.1) ++ dd ++ o.dst.toList) fr -> FreeD o.dst (r.us.map (·.1) ++ dd ++ o.dst.toList) fr -> DropD o.dst (r.us.map (·.1)) dd fr ->
      OpW Tb n ops dl dd o fr (r.us.map (·.1)) r.e (r.ws y ++ nonW dd ++ o.dst.toList.map fun d => (d,⟨r.e,fun _ => r.f () y⟩))
  | kb (r:Res Unit) (y:r.X) (d:Nat) (m:Md) (b:Bool):runs ops fr o = some true -> xop Tb dl fr o = some r -> chk n Tb.pin [] fr o.dst r = true -> r.run () = some y -> o.dst = some d ->
      (⟨r.e,fun _ => r.f () y⟩:Ex Unit) = ⟨.val .bool m,fun _ => b⟩ -> Free (r.us.map (·.1)) (r.us.map (·.1) ++ dd ++ o.dst.toList) fr -> FreeD o.dst (r.us.map (·.1) ++ dd ++ o.dst.toList) fr -> DropD o.dst (r.us.map (·.1)) dd fr ->
      OpW Tb n ops dl dd o fr (r.us.map (·.1)) r.e (r.ws y ++ nonW dd ++ [(d,⟨.kb b,fun _ => ()⟩)])
  | skip (d:Nat):runs ops fr o = some false -> o.dst = some d -> (d < n /\ d < gB) -> Tb.pin d = false -> FreeD o.dst ([] ++ dd ++ o.dst.toList) fr -> DropD o.dst [] dd fr -> OpW Tb n ops dl dd o fr [] .und ([] ++ nonW dd ++ [(d,⟨.und,fun _ => ()⟩)])
theorem chk_us {n:Nat} {pin:Nat -> Bool} {K:List Nat} {g:Fr} {d:Option Nat} {r:Res Unit} (h:chk n pin K g d r = true):∀ p ∈ r.us,p.1 ∈ slots n /\ p.2.1.own = true:=by
  unfold chk at h
  simp only [Bool.and_eq_true,List.all_eq_true,Bool.or_eq_true,decide_eq_true_eq,Bool.not_eq_true',beq_iff_eq,List.any_eq_true] at h
  obtain ⟨⟨_,h2⟩,_⟩:=h
  intro p hp
  rcases h2 p hp with ⟨⟨h,h'⟩,_⟩ | ⟨h,h'⟩
  · exact ⟨Qw.1 h,h'⟩
  · exact ⟨Qw.1 h',h⟩
theorem chk_nil {n:Nat} {pin:Nat -> Bool} {K:List Nat} {g:Fr} {d:Option Nat} {r:Res Unit} (h:chk n pin K g d r = true):chk n pin [] g d r = true:=by
  unfold chk at h ⊢
  simp only [Bool.and_eq_true] at h ⊢
  exact ⟨h.1,rfl⟩
theorem Aib {n:Nat} {pin:Nat -> Bool} {K dd:List Nat} {g:Fr} {d:Option Nat} {r:Res Unit} (h:chk n pin K g d r = true) (hK:∀ t,t ∉ K -> g t = Ex.non):Free (r.us.map (·.1)) (r.us.map (·.1) ++ dd ++ d.toList) g:=by
  intro t ht i hi
  by_cases hk:t ∈ K
  · unfold chk at h
    simp only [Bool.and_eq_true] at h
    have h3:=List.all_eq_true.1 h.2 t hk
    simp only [Bool.or_eq_true,List.any_eq_true,beq_iff_eq,List.all_eq_true,Bool.not_eq_true'] at h3
    obtain ⟨p,hp,rfl⟩:=List.mem_map.1 hi
    rcases h3 with (h3 | ⟨q,hq,h3⟩) | h3
    · exact absurd (List.mem_append_right _ (by rw [h3]; simp)) ht
    · exact absurd (List.mem_append_left _ (List.mem_append_left _ (List.mem_map.2 ⟨q,hq,h3⟩))) ht
    · exact h3 p hp
  · rw [hK t hk]; rfl
theorem Adk {n:Nat} {pin:Nat -> Bool} {dd:List Nat} {g g':Fr} {d:Option Nat} {r:Res Unit} (h:chk n pin [] g d r = true) (hf:Free (r.us.map (·.1)) (r.us.map (·.1) ++ dd ++ d.toList) g') (hdd:∀ t ∈ dd,∀ i ∈ r.us.map (·.1),(g' t).1.onT i = false):chk n pin (slots n) g' d r = true:=by
  unfold chk at h ⊢
  simp only [Bool.and_eq_true] at h ⊢
  refine ⟨h.1,?_⟩
  refine List.all_eq_true.2 fun k _ => ?_
  simp only [Bool.or_eq_true,List.any_eq_true,beq_iff_eq,List.all_eq_true,Bool.not_eq_true']
  by_cases hk:k ∈ r.us.map (·.1) ++ dd ++ d.toList
  · rcases List.mem_append.1 hk with hk | hk
    · rcases List.mem_append.1 hk with hk | hk
      · obtain ⟨q,hq,h3⟩:=List.mem_map.1 hk
        exact .inl (.inr ⟨q,hq,h3⟩)
      · exact .inr fun p hp => hdd k hk p.1 (List.mem_map.2 ⟨p,hp,rfl⟩)
    · exact .inl (.inl (by cases d with | none => simp at hk | some d => simp at hk; rw [hk]))
  · exact .inr fun p hp => hf k hk p.1 (List.mem_map.2 ⟨p,hp,rfl⟩)
theorem OpW.ent {Tb:Tab} {n:Nat} {ops:Array Oper} {dl dd:List Nat} {o:Oper} {fr:Fr} {us:List Nat} {e:Ent} {W:WS} (h:OpW Tb n ops dl dd o fr us e W):∀ p ∈ W,(∀ i,p.2.1.on i = false) \/ (p.1 ∈ o.dst.toList /\ p.2.1 = e):=by
  have hown:∀ {n:Nat} {r:Res Unit} {y:r.X} {K:List Nat} {fr:Fr} {d:Option Nat},chk n Tb.pin K fr d r = true -> ∀ p ∈ r.ws y,∀ i,p.2.1.on i = false:=fun hc p hp i => by
    obtain ⟨q,hq,rfl⟩:=Res.mem_ws hp
    exact Ent.own_on (chk_us hc q hq).2 i
  have hnon:∀ p ∈ nonW dd,∀ i,p.2.1.on i = false:=fun p hp i => by
    obtain ⟨t,_,rfl⟩:=List.mem_map.1 hp
    rfl
  cases h with
  | run r y _ _ hc _ _ _ _ =>
    intro p hp
    rcases List.mem_append.1 hp with hp | hp
    · rcases List.mem_append.1 hp with hp | hp
      · exact .inl (hown hc p hp)
      · exact .inl (hnon p hp)
    · obtain ⟨d',hd,rfl⟩:=List.mem_map.1 hp
      exact .inr ⟨hd,rfl⟩
  | kb r y d m b _ _ hc _ _ _ _ _ _ =>
    intro p hp
    rcases List.mem_append.1 hp with hp | hp
    · rcases List.mem_append.1 hp with hp | hp
      · exact .inl (hown hc p hp)
      · exact .inl (hnon p hp)
    · obtain rfl:=by simpa using hp
      exact .inl fun _ => rfl
  | skip d _ _ _ _ _ _ =>
    intro p hp
    rcases List.mem_append.1 hp with hp | hp
    · exact .inl (hnon p (by simpa using hp))
    · obtain rfl:=by simpa using hp
      exact .inl fun _ => rfl
theorem Sj (dd:List Nat):wdom (nonW dd) = dd:=by
  unfold wdom nonW
  rw [List.map_map]
  exact List.map_id _
theorem Nb (W V:WS):wdom (W ++ V) = wdom W ++ wdom V:=List.map_append
theorem OpW.dom {Tb:Tab} {n:Nat} {ops:Array Oper} {dl dd:List Nat} {o:Oper} {fr:Fr} {us:List Nat} {e:Ent} {W:WS} (h:OpW Tb n ops dl dd o fr us e W):wdom W = us ++ dd ++ o.dst.toList:=by
  cases h with
  | run r y _ _ hc _ _ _ _ =>
    rw [Nb,Nb,Sj,Res.wdom_ws]
    congr 1
    unfold wdom
    rw [List.map_map]
    exact List.map_id _
  | kb r y d m b _ _ hc _ hd _ _ _ _ =>
    rw [Nb,Nb,Sj,Res.wdom_ws,hd]
    rfl
  | skip d _ hd _ _ _ _ =>
    rw [Nb,Nb,Sj,hd]
    rfl
theorem OpW.free {Tb:Tab} {n:Nat} {ops:Array Oper} {dl dd:List Nat} {o:Oper} {fr:Fr} {us:List Nat} {e:Ent} {W:WS} (h:OpW Tb n ops dl dd o fr us e W):Free us (wdom W) fr /\ FreeD o.dst (wdom W) fr /\ DropD o.dst us dd fr:=by
  have hd:=h.dom
  rw [hd]
  cases h with
  | run r y _ _ hc _ h1 h2 h3 => exact ⟨h1,h2,h3⟩
  | kb r y d m b _ _ hc _ _ _ h1 h2 h3 => exact ⟨h1,h2,h3⟩
  | skip d _ _ _ _ h2 h3 => exact ⟨fun t _ i hi => absurd hi (by simp),h2,h3⟩
theorem L8 (fr:Fr) (W V:WS):app fr (W ++ V) = app (app fr W) V:=List.foldl_append
theorem Adb {t:Nat}:∀ {dd:List Nat} {fr:Fr},t ∈ dd -> app fr (nonW dd) t = Ex.non
  | [],_,h => by simp at h
  | d :: dd,fr,h => by
    show app (setE fr d Ex.non) (nonW dd) t = Ex.non
    by_cases hd:t ∈ dd
    · exact Adb hd
    · rw [app_not (by rw [Sj]; exact hd)]
      obtain rfl:t = d:=by simpa [hd] using h
      unfold setE
      rw [if_pos rfl]
theorem app_own {t:Nat}:∀ {W:WS} {fr:Fr},(∀ p ∈ W,∀ i,p.2.1.on i = false) -> t ∈ wdom W -> ∀ i,(app fr W t).1.on i = false
  | [],_,_,h,_ => by simp [wdom] at h
  | p :: W,fr,h,ht,i => by
    by_cases hW:t ∈ wdom W
    · exact app_own (W:=W) (fr:=setE fr p.1 p.2) (fun q hq => h q (List.mem_cons_of_mem _ hq)) hW i
    · show (app (setE fr p.1 p.2) W t).1.on i = false
      rw [app_not hW]
      obtain rfl:t = p.1:=by
        simp only [wdom,List.map_cons,List.mem_cons] at ht
        exact ht.resolve_right hW
      unfold setE
      rw [if_pos rfl]
      exact h p (by simp) i
theorem Sp {fr:Fr} {dst:Option Nat} {us:WS} {dd:List Nat} (hu:∀ p ∈ us,∀ i,p.2.1.on i = false) (hF:FreeD dst (wdom us ++ dd ++ dst.toList) fr) (hD:DropD dst (wdom us) dd fr) (x:Ex Unit) :
    updF fr dst x us = app fr (us ++ nonW dd ++ dst.toList.map fun d => (d,x)):=by
  rw [L8,L8]
  unfold updF
  cases hd:dst with
  | none =>
    have:dd = []:=List.eq_nil_iff_forall_not_mem.2 fun t ht => by
      obtain ⟨_,d,h,_⟩:=hD t ht
      rw [hd] at h; cases h
    subst this
    rfl
  | some d =>
    funext t
    show put (app fr us) d x t = setE (app (app fr us) (nonW dd)) d x t
    unfold put setE
    split
    · rfl
    · rename_i htd
      by_cases hdd:t ∈ dd
      · obtain ⟨h1,d',h2,h3,h4⟩:=hD t hdd
        rw [hd] at h2
        obtain rfl:=Option.some.inj h2
        rw [Adb hdd,app_not h1,if_pos h4]
      · rw [app_not (fr:=app fr us) (by rw [Sj]; exact hdd)]
        by_cases hus:t ∈ wdom us
        · rw [app_own hu hus d,if_neg (by simp)]
        · rw [app_not hus,hF t (by rw [hd]; simp only [List.mem_append,Option.toList_some,List.mem_singleton,not_or]; exact ⟨⟨hus,hdd⟩,htd⟩) d hd,if_neg (by simp)]
section
variable {C:Cx} {a:Act} {w:World} {P:Prot} {T:Nat -> List Nat}
theorem OpW.sound {Q:Exit -> Act -> World -> Prop} {Tb:Tab} (hT:TabOk C.M Tb) (hsg:∀ f s,Tb.sg f = some s -> SigR C.M C.w0 C.P0 f s) (hpin:∀ t,Tb.pin t = false -> C.pv t = none) {ops:Array Oper} {dl dd:List Nat} {o:Oper} {fr fr':Fr} {us:List Nat} {e:Ent} {W:WS} (h:OpW Tb C.n ops dl dd o fr us e W)
    (hrun:runs ops fr o = runs ops fr' o) (hxop:xop Tb dl fr o = xop Tb dl fr' o) (hddl:∀ t ∈ dd,fr t = fr' t) (hfr:Free us (wdom W) fr') (hfd:FreeD o.dst (wdom W) fr') (hddT:∀ t ∈ dd,∀ i ∈ us,(fr t).1.onT i = false) (hs:Sim C fr' a w P T) {K:Act -> World -> Prop}
    (hK:∀ a' w' P' T',Sim C (app fr' W) a' w' P' T' -> K a' w'):if Region.wanted o (yielded ops a.tmps) then o.wp C.M a w K Q else K (a.put o.dst undef) w:=by
  have hnon:∀ t,t ∉ slots C.n -> fr' t = Ex.non:=fun t ht => hs.dom t ht
  have hdrop:DropD o.dst us dd fr':=fun t ht => by
    obtain ⟨h1,d,h2,h3,h4⟩:=h.free.2.2 t ht
    exact ⟨h1,d,h2,h3,by rw [<- hddl t ht]; exact h4⟩
  have hddT':∀ t ∈ dd,∀ i ∈ us,(fr' t).1.onT i = false:=fun t ht i hi => by rw [<- hddl t ht]; exact hddT t ht i hi
  rw [h.dom] at hfr hfd
  cases h with
  | run r y h1 h2 h3 h4 h6 h7 h8 =>
    refine DStep.sound hT hsg hpin (.run dl (slots C.n) r y hnon (by rw [<- hrun]; exact h1) (by rw [<- hxop]; exact h2) (Adk h3 hfr hddT') h4) hs fun a' w' P' T' h' => hK a' w' P' T' ?_
    rw [<- Sp (fun p hp i => by
      obtain ⟨q,hq,rfl⟩:=Res.mem_ws hp
      exact Ent.own_on (chk_us h3 q hq).2 i) (by rw [Res.wdom_ws]; exact hfd) (by rw [Res.wdom_ws]; exact hdrop)]
    exact h'
  | kb r y d m b h1 h2 h3 h4 hd h5 h6 h7 h8 =>
    refine DStep.sound hT hsg hpin (.run dl (slots C.n) r y hnon (by rw [<- hrun]; exact h1) (by rw [<- hxop]; exact h2) (Adk h3 hfr hddT') h4) hs fun a' w' P' T' h' => ?_
    have hu:∀ p ∈ r.ws y,∀ i,p.2.1.on i = false:=fun p hp i => by
      obtain ⟨q,hq,rfl⟩:=Res.mem_ws hp
      exact Ent.own_on (chk_us h3 q hq).2 i
    have hup:=Sp (fr:=fr') hu (dst:=o.dst) (dd:=dd) (by rw [Res.wdom_ws]; exact hfd) (by rw [Res.wdom_ws]; exact hdrop) ⟨r.e,fun _ => r.f () y⟩
    have hfree:∀ t,t ≠ d -> (updF fr' o.dst ⟨r.e,fun _ => r.f () y⟩ (r.ws y) t).1.on d = false:=fun t ht => by
      unfold updF
      rw [hd]
      show (put (app fr' (r.ws y)) d _ t).1.on d = false
      unfold put
      rw [if_neg ht]
      split
      · rfl
      · rename_i hno; simpa using hno
    have hval:updF fr' o.dst ⟨r.e,fun _ => r.f () y⟩ (r.ws y) d = ⟨.val .bool m,fun _ => b⟩:=by
      unfold updF
      rw [hd,h5]
      show put _ d _ d = _
      unfold put
      rw [if_pos rfl]
    obtain ⟨T'',h''⟩:=h'.known hval
    refine hK a' w' P' T'' ?_
    have e:put (updF fr' o.dst ⟨r.e,fun _ => r.f () y⟩ (r.ws y)) d ⟨.kb b,fun _ => ()⟩ = app fr' (r.ws y ++ nonW dd ++ [(d,⟨.kb b,fun _ => ()⟩)]):=by
      funext t
      unfold put
      by_cases htd:t = d
      · rw [if_pos htd,L8]
        show _ = setE _ d _ t
        unfold setE
        rw [if_pos htd]
      · rw [if_neg htd,hfree t htd,if_neg (by simp),hup,L8,L8 (W:=r.ws y ++ nonW dd),hd]
        show setE _ d _ t = setE _ d _ t
        unfold setE
        rw [if_neg htd,if_neg htd]
    rw [<- e]
    exact h''
  | skip d h1 hd hdn hp h7 h8 =>
    refine DStep.sound hT hsg hpin (.skip d (by rw [<- hrun]; exact h1) hd hdn hp) hs fun a' w' P' T' h' => hK a' w' P' T' ?_
    have hup:=Sp (fr:=fr') (us:=[]) (fun p hp => by simp at hp) (dst:=o.dst) (dd:=dd) hfd hdrop ⟨.und,fun _ => ()⟩
    rw [hd] at hup
    exact (show app fr' _ = put fr' d ⟨.und,fun _ => ()⟩ from hup.symm) ▸ h'
end
mutual
theorem Ty.fz_h:(t:Ty) -> (m:Md) -> t.fz m = false -> t.fz .h = false
  | .int _,m,h => by simp [Ty.fz] at h
  | .bool,m,h => by simp [Ty.fz] at h
  | .str,m,h => by simp [Ty.fz] at h
  | .sl _ _,m,h => by simp [Ty.fz]
  | .st ts,m,h => by simp only [Ty.fz] at h ⊢; exact Ty.fzs_h ts m h
  | .fn _ _,m,h => by simp [Ty.fz] at h
  | .tup ts,m,h => by simp only [Ty.fz] at h ⊢; exact Ty.fzs_h ts m h
  | .ptr _,m,h => by simp [Ty.fz]
theorem Ty.fzs_h:(ts:List Ty) -> (m:Md) -> Ty.fzs ts m = false -> Ty.fzs ts .h = false
  | [],m,h => by simp [Ty.fzs] at h
  | t :: ts,m,h => by
    simp only [Ty.fzs,Bool.and_eq_false_iff] at h ⊢
    rcases h with h | h
    · exact .inl (Ty.fz_h t _ h)
    · exact .inr (Ty.fzs_h ts _ h)
end
theorem Md.nth_setNth:(m:Md) -> (n k:Nat) -> (c:Md) -> (m.setNth n c).nth k = if k = n then c else m.nth k
  | m,0,0,c => rfl
  | m,0,k + 1,c => by rw [if_neg (by omega)]; rfl
  | m,n + 1,0,c => by rw [if_neg (by omega)]; rfl
  | m,n + 1,k + 1,c => by
    have:=Md.nth_setNth m.tl n k c
    show (m.tl.setNth n c).nth k = _
    rw [this]
    by_cases h:k = n
    · rw [if_pos h,if_pos (by omega)]
    · rw [if_neg h,if_neg (by omega)]; rfl
theorem Aho {ts:List Ty} {m:Md} {n:Nat} {q:(t:Ty) × (Ty.dens ts -> t.den) × (Ty.dens ts -> t.den -> Ty.dens ts)} (hq:fld ts n = some q) (hz:q.1.fz (m.nth n) = false):tupM ts (m.setNth n .h) = tupM ts m:=by
  funext k
  unfold tupM
  rw [Md.nth_setNth]
  by_cases hk:k = n
  · subst hk
    rw [if_pos rfl,hq]
    simp only [hz,Ty.fz_h _ _ hz,Bool.false_eq_true,if_false]
  · rw [if_neg hk]
theorem opx_tup {g:Fr} {t:Nat} {ts:List Ty} {m:Md} {f:Unit -> Ty.dens ts} (h:opx g (.tmp t) = ⟨.val (.tup ts) m,f⟩):g t = ⟨.val (.tup ts) m,f⟩:=by
  by_cases hg:isG t = true
  · have:opx g (.tmp t) = Ex.non:=by unfold opx; simp only [if_pos hg]
    rw [this] at h
    cases h
  · cases hx:g t with
    | mk e f1 =>
      cases e with
      | kb b =>
        have:opx g (.tmp t) = ⟨.val .bool .p,fun _ => b⟩:=by unfold opx; simp only [if_neg hg,hx]
        rw [this] at h
        cases h
      | _ =>
        have:opx g (.tmp t) = g t:=by unfold opx; simp only [if_neg hg,hx]
        rw [this,hx] at h
        exact h
theorem ex_ws {dl:List Nat} {g:Fr} {t n:Nat} {r:Res Unit} (h:J1 dl g (.tmp t) n (opx g (.tmp t)) = some r):∀ y,∀ p ∈ r.ws y,p.1 = t -> tupK p.2 = tupK (g t):=by
  unfold J1 at h
  split at h
  · rename_i ts m f i hx hi
    have hi':t = i:=by simpa [slotOf] using hi
    subst hi'
    have hg:=opx_tup hx
    split at h
    · rename_i ty get set hq
      split at h
      · cases h
      · cases h
        intro y p hp hpt
        unfold Res.ws at hp
        simp only at hp
        split at hp
        · simp at hp
        · rename_i hz
          unfold usX at hp
          simp only [List.map_cons,List.mem_cons,List.map_map] at hp
          rcases hp with rfl | hp
          · rw [hg]
            show some (⟨ts,f (),tupM ts (m.setNth n .h)⟩:(ts:List Ty) × (Ty.dens ts × (Nat -> Option Md))) = some ⟨ts,f (),tupM ts m⟩
            rw [Aho hq (by simpa using hz)]
          · exfalso
            obtain ⟨k,hk,rfl⟩:=List.mem_map.1 hp
            unfold hung at hk
            obtain ⟨k',hk',rfl⟩:=List.mem_map.1 hk
            have:=(List.mem_filter.1 hk').2
            simp only [Function.comp] at hpt
            subst hpt
            rw [hg] at this
            cases this
    · cases h
  · cases h
theorem Ag4 {Tb:Tab} {d:Option Nat} {r0 r:Res Unit} (h:coRes Tb d r0 = r):∀ y:r.X,∃ y0:r0.X,r.ws y = r0.ws y0:=by
  subst h
  rcases Wo Tb d r0 with e | ⟨X,run,t,m,f,us,m',e1,e2⟩
  · rw [e]; exact fun y => ⟨y,rfl⟩
  · subst e1
    rw [e2]
    exact fun y => ⟨y,rfl⟩
def KeepS (o:Oper) (fr:Fr) (W:WS):Prop:=∀ t,swOf o = some t -> ∀ p ∈ W,p.1 = t -> tupK p.2 = tupK (fr t)
theorem OpW.keepS {Tb:Tab} {n:Nat} {ops:Array Oper} {dl dd:List Nat} {o:Oper} {fr:Fr} {us:List Nat} {e:Ent} {W:WS} (h:OpW Tb n ops dl dd o fr us e W):KeepS o fr W:=by
  intro t ht p hp hpt
  unfold swOf at ht
  split at ht
  · rename_i t' j hop
    split at ht
    · cases ht
    · rename_i hne
      cases ht
      have hne':∀ d,o.dst = some d -> d ≠ t:=fun d hd e => hne (by rw [hd,e]; simp)
      have hnon:∀ us,DropD o.dst us dd fr -> ∀ p ∈ nonW dd,p.1 = t -> tupK p.2 = tupK (fr t):=fun us hD p hp hpt => by
        obtain ⟨k,hk,rfl⟩:=List.mem_map.1 hp
        simp only at hpt
        subst hpt
        obtain ⟨_,d,_,_,h4⟩:=hD k hk
        generalize fr k = x at h4
        obtain ⟨e,f⟩:=x
        cases e <;> first | rfl | cases h4
      have hws:∀ r,xop Tb dl fr o = some r -> ∀ y,∀ p ∈ r.ws y,p.1 = t -> tupK p.2 = tupK (fr t):=fun r hr y p hp hpt => by
        have hx0:xop0 Tb dl fr o = J1 dl fr (.tmp t) j (opx fr (.tmp t)):=by
          unfold xop0 sop
          simp only [hop]
        unfold xop at hr
        rw [hx0] at hr
        obtain ⟨r0,hr0,hc⟩:=Option.map_eq_some_iff.1 hr
        obtain ⟨y0,hy0⟩:=Ag4 hc y
        rw [hy0] at hp
        exact ex_ws hr0 y0 p hp hpt
      cases h with
      | run r y _ h2 _ _ _ _ h8 =>
        rcases List.mem_append.1 hp with hp | hp
        · rcases List.mem_append.1 hp with hp | hp
          · exact hws r h2 y p hp hpt
          · exact hnon _ h8 p hp hpt
        · obtain ⟨d,hd,rfl⟩:=List.mem_map.1 hp
          exact absurd hpt (hne' d (by simpa using hd))
      | kb r y d m b _ h2 _ _ hd _ _ _ h8 =>
        rcases List.mem_append.1 hp with hp | hp
        · rcases List.mem_append.1 hp with hp | hp
          · exact hws r h2 y p hp hpt
          · exact hnon _ h8 p hp hpt
        · obtain rfl:=by simpa using hp
          exact absurd hpt (hne' d hd)
      | skip d _ hd _ _ _ h8 =>
        rcases List.mem_append.1 hp with hp | hp
        · exact hnon _ h8 p (by simpa using hp) hpt
        · obtain rfl:=by simpa using hp
          exact absurd hpt (hne' d hd)
  · cases ht
theorem pre_get {α:Type} {l l':List α} (h:l <+: l') {i:Nat} (hi:i < l.length):l'[i]? = l[i]?:=by
  obtain ⟨t,rfl⟩:=h
  exact List.getElem?_append_left hi
abbrev binds (e:Edge):Bool:=Region.binds .any e
def disj (l l':List Nat):Bool:=l.all fun x => !l'.contains x
abbrev Info:=List Nat × List Nat × List Nat × Ent × List Nat
def predsOf (o:Oper):List Nat:=(o.after.toList.filter fun e => binds e).map (·.on)
def ancB (acc:List Info) (i:Nat):Nat -> List Nat -> Bool
  | 0,prs => prs.contains i
  | k + 1,prs => prs.contains i || prs.any fun j => Nat.blt i j && (match acc[j]? with | some q => ancB acc i k q.2.2.2.2 | none => false)
theorem Aae {acc acc':List Info} (h:acc <+: acc') {i:Nat}:∀ {k:Nat} {prs:List Nat},ancB acc i k prs = true -> ancB acc' i k prs = true
  | 0,_,hb => hb
  | k + 1,prs,hb => by
    simp only [ancB,Bool.or_eq_true,List.any_eq_true,Bool.and_eq_true] at hb ⊢
    rcases hb with hb | ⟨j,hj,hlt,hb⟩
    · exact .inl hb
    · refine .inr ⟨j,hj,hlt,?_⟩
      cases hq:acc[j]? with
      | none => rw [hq] at hb; cases hb
      | some q =>
        rw [hq] at hb
        have:acc'[j]? = some q:=by
          obtain ⟨t,rfl⟩:=h
          rw [List.getElem?_append_left (List.getElem?_eq_some_iff.1 hq).1]
          exact hq
        rw [this]
        exact Aae h hb
def tiedB (prs:List Nat) (all:List Info):Nat -> List Info -> List Nat -> List Nat -> Bool
  | _,[],_,_ => true
  | i,q :: acc,rd,wr => ((disj q.2.1 rd && disj q.2.1 wr && disj q.1 wr) || ancB all i 30 prs) && tiedB prs all (i + 1) acc rd wr
theorem Ac4 {prs:List Nat} {all:List Info} {rd wr:List Nat}:∀ {acc:List Info} {i:Nat},tiedB prs all i acc rd wr = true -> ∀ j q,acc[j]? = some q ->
    (disj q.2.1 rd = true /\ disj q.2.1 wr = true /\ disj q.1 wr = true) \/ ancB all (i + j) 30 prs = true
  | [],_,_,j,q,hj => by simp at hj
  | q' :: acc,i,h,j,q,hj => by
    simp only [tiedB,Bool.and_eq_true,Bool.or_eq_true] at h
    cases j with
    | zero =>
      simp only [List.getElem?_cons_zero,Option.some.injEq] at hj
      subst hj
      rcases h.1 with h | h
      · exact .inl ⟨h.1.1,h.1.2,h.2⟩
      · exact .inr h
    | succ j =>
      rcases Ac4 h.2 j q (by simpa using hj) with h' | h'
      · exact .inl h'
      · exact .inr (by rw [show i + (j + 1) = i + 1 + j by omega]; exact h')
def KeepZ (Z:List Nat) (fr:Fr) (W:WS):Prop:=∀ p ∈ W,p.1 ∈ Z -> kindE p.2.1 = kindE (fr p.1).1
structure Drops (ops:Array Oper) (Z ds U dl ad dd:List Nat) (acc:List Info) (o:Oper) (fr:Fr) (us:List Nat) (e:Ent):Prop where
  hus:∀ i ∈ us,i ∈ U
  base:∀ i ∈ U,e.onT i = true -> i ∈ rdZ Z ops fr o
  baseD:∀ d ∈ ds,e.on d = true -> d ∈ rdZ Z ops fr o
  hdl:∀ q ∈ acc,∀ t ∈ q.2.2.1,∀ i ∈ us,q.2.2.2.1.onT i = true -> t ∈ dl
  had:∀ q ∈ acc,∀ t ∈ q.2.2.1,∀ d,o.dst = some d -> q.2.2.2.1.on d = true -> t ∈ ad
  sub:∀ t ∈ dd,t ∈ ad
  ddT:∀ t ∈ dd,∀ i ∈ us,(fr t).1.onT i = false
inductive DPath (Tb:Tab) (n:Nat) (ops:Array Oper) (Z ds U:List Nat):List Info -> List Oper -> Fr -> List WS -> List Info -> Fr -> Prop
  | nil (acc:List Info) (fr:Fr):DPath Tb n ops Z ds U acc [] fr [] acc fr
  | step (acc:List Info) (o:Oper) (l:List Oper) (fr:Fr) (dl ad dd us:List Nat) (e:Ent) (W:WS) (Ws:List WS) (acc':List Info) (fr':Fr) :
      OpW Tb n ops dl dd o fr us e W -> (∀ d,o.dst = some d -> d ∈ ds) -> (∀ e ∈ o.after,binds e = true -> e.on < acc.length) -> tiedB (predsOf o) acc 0 acc (rdZ Z ops fr o ++ dl ++ ad) (wrX o (wdom W)) = true -> Drops ops Z ds U dl ad dd acc o fr us e -> KeepZ Z fr W ->
      DPath Tb n ops Z ds U (acc ++ [(rdZ Z ops fr o ++ dl ++ ad,wrX o (wdom W),o.dst.toList,e,predsOf o)]) l (app fr W) Ws acc' fr' -> DPath Tb n ops Z ds U acc (o :: l) fr (W :: Ws) acc' fr'
structure AtK (Tb:Tab) (n:Nat) (ops:Array Oper) (Z ds U:List Nat) (acc':List Info) (i:Nat) (o:Oper) (frk:Fr) (dl ad dd us:List Nat) (e:Ent) (W:WS):Prop where
  op:OpW Tb n ops dl dd o frk us e W
  hds:∀ d,o.dst = some d -> d ∈ ds
  lt:∀ e ∈ o.after,binds e = true -> e.on < i
  acc:acc'[i]? = some (rdZ Z ops frk o ++ dl ++ ad,wrX o (wdom W),o.dst.toList,e,predsOf o)
  tied:∀ j q,j < i -> acc'[j]? = some q -> (disj q.2.1 (rdZ Z ops frk o ++ dl ++ ad) = true /\ disj q.2.1 (wrX o (wdom W)) = true /\ disj q.1 (wrX o (wdom W)) = true) \/ ancB acc' j 30 (predsOf o) = true
  hus:∀ i ∈ us,i ∈ U
  base:∀ i ∈ U,e.onT i = true -> i ∈ rdZ Z ops frk o
  baseD:∀ d ∈ ds,e.on d = true -> d ∈ rdZ Z ops frk o
  hdl:∀ j q,j < i -> acc'[j]? = some q -> ∀ t ∈ q.2.2.1,∀ i ∈ us,q.2.2.2.1.onT i = true -> t ∈ dl
  had:∀ j q,j < i -> acc'[j]? = some q -> ∀ t ∈ q.2.2.1,∀ d,o.dst = some d -> q.2.2.2.1.on d = true -> t ∈ ad
  sub:∀ t ∈ dd,t ∈ ad
  ddT:∀ t ∈ dd,∀ i ∈ us,(frk t).1.onT i = false
  kz:KeepZ Z frk W
theorem DPath.acc {Tb:Tab} {n:Nat} {ops:Array Oper} {Z ds U:List Nat} {acc acc':List Info} {l:List Oper} {fr fr':Fr} {Ws:List WS} (h:DPath Tb n ops Z ds U acc l fr Ws acc' fr') :
    acc <+: acc' /\ acc'.length = acc.length + l.length /\ Ws.length = l.length /\ fr' = sel (fun _ => true) 0 Ws fr:=by
  induction h with
  | nil acc fr => exact ⟨List.prefix_rfl,rfl,rfl,rfl⟩
  | step acc o l fr dl ad dd us e W Ws acc' fr' h1 h2 h3 h4 h6 h7 h5 ih =>
    refine ⟨(List.prefix_append _ _).trans ih.1,by simp [ih.2.1]; omega,by simp [ih.2.2.1],?_⟩
    rw [ih.2.2.2]
    have:∀ (i j:Nat) (fr:Fr),sel (fun _ => true) i Ws fr = sel (fun _ => true) j Ws fr:=by
      clear ih h5
      induction Ws with
      | nil => intro i j fr; rfl
      | cons V Ws ih => intro i j fr; exact ih _ _ _
    exact this _ _ _
theorem DPath.at {Tb:Tab} {n:Nat} {ops:Array Oper} {Z ds U:List Nat} {acc acc':List Info} {l:List Oper} {fr fr':Fr} {Ws:List WS} (h:DPath Tb n ops Z ds U acc l fr Ws acc' fr') :
    ∀ k o,l[k]? = some o -> ∃ dl ad dd us e W,Ws[k]? = some W /\ AtK Tb n ops Z ds U acc' (acc.length + k) o (sel (fun j => decide (j < acc.length + k)) acc.length Ws fr) dl ad dd us e W:=by
  induction h with
  | nil acc fr => intro k o hk; simp at hk
  | step acc o l fr dl ad dd us e W Ws acc' fr' h1 h2 h3 h4 h6 h7 h5 ih =>
    intro k o' hk
    have hpre:=h5.acc.1
    cases k with
    | zero =>
      simp only [List.getElem?_cons_zero,Option.some.injEq] at hk
      subst hk
      have hfr:sel (fun j => decide (j < acc.length + 0)) acc.length (W :: Ws) fr = fr:=Q8 fun j hj => decide_eq_false (by omega)
      refine ⟨dl,ad,dd,us,e,W,rfl,?_⟩
      rw [hfr]
      have hq':∀ j q,j < acc.length + 0 -> acc'[j]? = some q -> acc[j]? = some q:=fun j q hj hq => by
        rw [pre_get hpre (by simp; omega),List.getElem?_append_left (by omega)] at hq
        exact hq
      refine ⟨h1,h2,h3,by rw [pre_get hpre (by simp)]; simp,fun j q hj hq => ?_,h6.hus,h6.base,h6.baseD,fun j q hj hq t ht => h6.hdl q (List.mem_of_getElem? (hq' j q hj hq)) t ht,fun j q hj hq t ht => h6.had q (List.mem_of_getElem? (hq' j q hj hq)) t ht,h6.sub,h6.ddT,h7⟩
      rcases Ac4 h4 j q (hq' j q hj hq) with h | h
      · exact .inl h
      · rw [Nat.zero_add] at h
        exact .inr (Aae ((List.prefix_append _ _).trans hpre) h)
    | succ k =>
      obtain ⟨dl',ad',dd',us',e',W',hW',hat⟩:=ih k o' (by simpa using hk)
      refine ⟨dl',ad',dd',us',e',W',by simpa using hW',?_⟩
      have hfr:sel (fun j => decide (j < acc.length + (k + 1))) acc.length (W :: Ws) fr = sel (fun j => decide (j < (acc ++ [(rdZ Z ops fr o ++ dl ++ ad,wrX o (wdom W),o.dst.toList,e,predsOf o)]).length + k)) (acc ++ [(rdZ Z ops fr o ++ dl ++ ad,wrX o (wdom W),o.dst.toList,e,predsOf o)]).length Ws (app fr W):=by
        show sel _ (acc.length + 1) Ws (if decide (acc.length < acc.length + (k + 1)) = true then app fr W else fr) = _
        rw [if_pos (decide_eq_true (by omega))]
        simp only [List.length_append,List.length_singleton]
        rw [show acc.length + (k + 1) = acc.length + 1 + k by omega]
      rw [hfr]
      have:acc.length + (k + 1) = (acc ++ [(rdZ Z ops fr o ++ dl ++ ad,wrX o (wdom W),o.dst.toList,e,predsOf o)]).length + k:=by simp; omega
      rw [this]
      exact hat
theorem Vf {L:Nat -> Bool} {t:Nat}:∀ {Ws:List WS} {i:Nat} {fr:Fr},sel L i Ws fr t = fr t \/ ∃ j V p,Ws[j]? = some V /\ L (i + j) = true /\ p ∈ V /\ p.1 = t /\ sel L i Ws fr t = p.2
  | [],_,_ => .inl rfl
  | W :: Ws,i,fr => by
    have happ:∀ (V:WS) (fr:Fr),app fr V t = fr t \/ ∃ p ∈ V,p.1 = t /\ app fr V t = p.2:=by
      intro V
      induction V with
      | nil => intro fr; exact .inl rfl
      | cons p V ih =>
        intro fr
        rcases ih (setE fr p.1 p.2) with h | ⟨q,hq,h1,h2⟩
        · by_cases hp:t = p.1
          · refine .inr ⟨p,by simp,hp.symm,?_⟩
            refine Eq.trans h ?_
            unfold setE; rw [if_pos hp]
          · refine .inl (Eq.trans h ?_)
            unfold setE; rw [if_neg hp]
        · exact .inr ⟨q,List.mem_cons_of_mem _ hq,h1,h2⟩
    rcases Vf (Ws:=Ws) (i:=i + 1) (fr:=if L i then app fr W else fr) with h | ⟨j,V,p,h1,h2,h3,h4,h5⟩
    · cases hL:L i with
      | false =>
        rw [hL,if_neg (by simp)] at h
        refine .inl ?_
        show sel L (i + 1) Ws (if L i = true then app fr W else fr) t = fr t
        rw [hL,if_neg (by simp)]
        exact h
      | true =>
        rw [hL,if_pos rfl] at h
        have e:sel L i (W :: Ws) fr t = app fr W t:=by
          show sel L (i + 1) Ws (if L i = true then app fr W else fr) t = _
          rw [hL,if_pos rfl]
          exact h
        rcases happ W fr with h' | ⟨p,hp,h1,h2⟩
        · exact .inl (e.trans h')
        · exact .inr ⟨0,W,p,rfl,hL,hp,h1,e.trans h2⟩
    · exact .inr ⟨j + 1,V,p,by simpa using h1,by rw [show i + (j + 1) = i + 1 + j by omega]; exact h2,h3,h4,h5⟩
theorem Z7 {L:Nat -> Bool} {t:Nat}:∀ {Ws:List WS} {i:Nat} {fr:Fr},(sel L i Ws fr t = fr t /\ ∀ j V,Ws[j]? = some V -> L (i + j) = true -> t ∉ wdom V) \/
    ∃ j V,Ws[j]? = some V /\ L (i + j) = true /\ t ∈ wdom V /\ (∀ fr',sel L i Ws fr t = app fr' V t) /\ ∀ j' V',j < j' -> Ws[j']? = some V' -> L (i + j') = true -> t ∉ wdom V'
  | [],_,_ => .inl ⟨rfl,fun j V h => by simp at h⟩
  | W :: Ws,i,fr => by
    rcases Z7 (L:=L) (t:=t) (Ws:=Ws) (i:=i + 1) (fr:=if L i then app fr W else fr) with ⟨h,h'⟩ | ⟨j,V,h1,h2,h3,h4,h5⟩
    · by_cases hw:L i = true /\ t ∈ wdom W
      · refine .inr ⟨0,W,rfl,hw.1,hw.2,fun fr' => ?_,fun j' V' hj hV hL => ?_⟩
        · show sel L (i + 1) Ws (if L i = true then app fr W else fr) t = _
          rw [h,if_pos hw.1]
          exact Si (.inr hw.2)
        · obtain ⟨j'',rfl⟩:∃ j'',j' = j'' + 1:=⟨j' - 1,by omega⟩
          exact h' j'' V' (by simpa using hV) (by rw [show i + 1 + j'' = i + (j'' + 1) by omega]; exact hL)
      · refine .inl ⟨?_,fun j V hV hL => ?_⟩
        · show sel L (i + 1) Ws (if L i = true then app fr W else fr) t = _
          rw [h]
          split
          · rename_i hL
            exact app_not fun hm => hw ⟨hL,hm⟩
          · rfl
        · cases j with
          | zero =>
            simp only [List.getElem?_cons_zero,Option.some.injEq] at hV
            subst hV
            exact fun hm => hw ⟨hL,hm⟩
          | succ j => exact h' j V (by simpa using hV) (by rw [show i + 1 + j = i + (j + 1) by omega]; exact hL)
    · refine .inr ⟨j + 1,V,by simpa using h1,by rw [show i + (j + 1) = i + 1 + j by omega]; exact h2,h3,h4,fun j' V' hj hV hL => ?_⟩
      obtain ⟨j'',rfl⟩:∃ j'',j' = j'' + 1:=⟨j' - 1,by omega⟩
      exact h5 j'' V' (by omega) (by simpa using hV) (by rw [show i + 1 + j'' = i + (j'' + 1) by omega]; exact hL)
theorem app_ent {t:Nat}:∀ {V:WS} {fr:Fr},t ∈ wdom V -> ∃ p ∈ V,p.1 = t /\ app fr V t = p.2
  | [],_,h => by simp [wdom] at h
  | p :: V,fr,h => by
    by_cases hV:t ∈ wdom V
    · obtain ⟨q,hq,h1,h2⟩:=app_ent (V:=V) (fr:=setE fr p.1 p.2) hV
      exact ⟨q,List.mem_cons_of_mem _ hq,h1,h2⟩
    · have hp:t = p.1:=by
        simp only [wdom,List.map_cons,List.mem_cons] at h
        exact h.resolve_right hV
      refine ⟨p,by simp,hp.symm,?_⟩
      show app (setE fr p.1 p.2) V t = p.2
      rw [app_not hV]
      unfold setE
      rw [if_pos hp]
theorem Agn {t:Nat} {Ws:List WS} {fr:Fr} {S:Nat -> Bool} (hs:∀ j W,Ws[j]? = some W -> S j = true -> ∀ p ∈ W,p.1 = t -> tupK p.2 = tupK (sel (fun i => decide (i < j)) 0 Ws fr t)) {k:Nat} {L:Nat -> Bool}
    (h1:∀ j W,Ws[j]? = some W -> t ∈ wdom W -> S j = false -> L j = decide (j < k))
    (h2:∀ i j W V,Ws[i]? = some W -> Ws[j]? = some V -> t ∈ wdom W -> t ∈ wdom V -> i < j -> S i = false -> L j = true -> L i = true) :
    tupK (sel (fun i => decide (i < k)) 0 Ws fr t) = tupK (sel L 0 Ws fr t):=by
  have hstep:∀ j,(∀ W,Ws[j]? = some W -> t ∈ wdom W -> S j = true) -> tupK (sel (fun i => decide (i < j + 1)) 0 Ws fr t) = tupK (sel (fun i => decide (i < j)) 0 Ws fr t):=fun j hj => by
    cases hW:Ws[j]? with
    | none =>
      refine congrArg tupK (Pi (fun i V hV _ => ?_) rfl)
      have h3:=(List.getElem?_eq_some_iff.1 hV).1
      have h4:=List.getElem?_eq_none_iff.1 hW
      rw [decide_eq_true (by omega),decide_eq_true (by omega)]
    | some W =>
      have:=Px (i:=0) (fr:=fr) hW
      rw [Nat.zero_add] at this
      rw [this]
      by_cases ht:t ∈ wdom W
      · obtain ⟨p,hp,hpt,he⟩:=app_ent (fr:=sel (fun i => decide (i < j)) 0 Ws fr) ht
        rw [he]
        exact hs j W hW (hj W hW ht) p hp hpt
      · rw [app_not ht]
  have hconst:∀ b a,a <= b -> (∀ j W,a <= j -> j < b -> Ws[j]? = some W -> t ∈ wdom W -> S j = true) -> tupK (sel (fun i => decide (i < b)) 0 Ws fr t) = tupK (sel (fun i => decide (i < a)) 0 Ws fr t):=by
    intro b
    induction b with
    | zero => intro a ha _; obtain rfl:a = 0:=by omega
              rfl
    | succ b ih =>
      intro a ha h
      by_cases hab:a = b + 1
      · rw [hab]
      · rw [hstep b fun W hW ht => h b W (by omega) (by omega) hW ht]
        exact ih a (by omega) fun j W h3 h4 => h j W h3 (by omega)
  rcases Z7 (L:=L) (t:=t) (Ws:=Ws) (i:=0) (fr:=fr) with ⟨e,hn⟩ | ⟨j,V,hV,hL,ht,he,hn⟩
  · rw [e,hconst k 0 (by omega) fun j W _ hj hW ht => ?_]
    · exact congrArg tupK (congrFun (Q8 fun j _ => decide_eq_false (by omega)) t)
    · cases hS:S j with
      | true => rfl
      | false => exact absurd ht (hn j W hW (by rw [Nat.zero_add,h1 j W hW ht hS]; simpa using hj))
  · rw [Nat.zero_add] at hL
    have hlater:∀ j' W,j < j' -> j' < k -> Ws[j']? = some W -> t ∈ wdom W -> S j' = true:=fun j' W h3 h4 hW ht' => by
      cases hS:S j' with
      | true => rfl
      | false => exact absurd ht' (hn j' W h3 hW (by rw [Nat.zero_add,h1 j' W hW ht' hS]; simpa using h4))
    cases hS:S j with
    | false =>
      have hjk:j < k:=by
        have:=h1 j V hV ht hS
        rw [hL] at this
        simpa using this.symm
      rw [hconst k (j + 1) (by omega) fun j' W h3 h4 => hlater j' W (by omega) h4]
      have:=Px (i:=0) (fr:=fr) hV
      rw [Nat.zero_add] at this
      rw [this,<- he]
    | true =>
      have hj:tupK (sel L 0 Ws fr t) = tupK (sel (fun i => decide (i < j)) 0 Ws fr t):=by
        obtain ⟨p,hp,hpt,h3⟩:=app_ent (fr:=fr) ht
        rw [he fr,h3]
        exact hs j V hV hS p hp hpt
      rw [hj]
      by_cases hjk:j <= k
      · refine hconst k j hjk fun j' W h3 h4 hW ht' => ?_
        by_cases hjj:j' = j
        · rw [hjj]; exact hS
        · exact hlater j' W (by omega) h4 hW ht'
      · refine (hconst j k (by omega) fun j' W h3 h4 hW ht' => ?_).symm
        cases hS':S j' with
        | true => rfl
        | false =>
          have h5:=h2 j' j W V hW hV ht' ht h4 hS' hL
          rw [h1 j' W hW ht' hS'] at h5
          have:j' < k:=by simpa using h5
          omega
theorem Acs {Z:List Nat} {Ws:List WS} {fr:Fr} (h:∀ j W,Ws[j]? = some W -> KeepZ Z (sel (fun i => decide (i < j)) 0 Ws fr) W) {t:Nat} (ht:t ∈ Z) (L:Nat -> Bool):kindE (sel L 0 Ws fr t).1 = kindE (fr t).1:=by
  have key:∀ (j:Nat) (W:WS),Ws[j]? = some W -> ∀ p ∈ W,p.1 = t -> kindE p.2.1 = kindE (fr t).1:=by
    intro j
    induction j using Nat.strongRecOn with
    | _ j ih =>
      intro W hW p hp hpt
      rw [h j W hW p hp (hpt ▸ ht),hpt]
      rcases Vf (L:=fun i => decide (i < j)) (t:=t) (Ws:=Ws) (i:=0) (fr:=fr) with e | ⟨j',V,q,hV,hL,hq,hqt,e⟩
      · rw [e]
      · rw [e]
        rw [Nat.zero_add] at hL
        exact ih j' (by simpa using hL) V hV q hq hqt
  rcases Vf (L:=L) (t:=t) (Ws:=Ws) (i:=0) (fr:=fr) with e | ⟨j,V,p,hV,_,hp,hpt,e⟩
  · rw [e]
  · rw [e]; exact key j V hV p hp hpt
theorem Nk {l l':List Nat} (h:disj l l' = true) {t:Nat} (ht:t ∈ l):t ∉ l':=by
  have:=List.all_eq_true.1 h t ht
  simpa using this
def todo (L:Nat -> Bool) (m:Nat):Nat:=((List.range m).filter fun i => !L i).length
theorem Afn {L:Nat -> Bool} {m:Nat} (h:todo L m = 0):∀ i,i < m -> L i = true:=fun i hi => by
  have:=List.eq_nil_of_length_eq_zero h
  have hx:i ∉ (List.range m).filter fun i => !L i:=by rw [this]; simp
  simpa [hi] using hx
theorem Ah2 {L L':Nat -> Bool} {m i:Nat} (hi:i < m) (hL:L i = false) (hL':∀ j,j < m -> L' j = (L j || j == i)):todo L' m < todo L m:=by
  have key:∀ (l:List Nat),(∀ j ∈ l,L' j = (L j || j == i)) -> (l.filter fun j => !L' j).length <= (l.filter fun j => !L j).length /\ (i ∈ l -> (l.filter fun j => !L' j).length < (l.filter fun j => !L j).length):=by
    intro l
    induction l with
    | nil => intro _; simp
    | cons x l ih =>
      intro h
      obtain ⟨h1,h2⟩:=ih fun j hj => h j (by simp [hj])
      have hx:=h x (by simp)
      by_cases hxi:x = i
      · subst hxi
        have e':L' x = true:=by rw [hx]; simp
        simp only [List.filter_cons,e',hL,Bool.not_true,Bool.not_false,if_true,Bool.false_eq_true,if_false,List.length_cons]
        exact ⟨by omega,fun _ => by omega⟩
      · have e':L' x = L x:=by rw [hx]; simp [hxi]
        simp only [List.filter_cons,e']
        split
        · simp only [List.length_cons,List.mem_cons]
          exact ⟨by omega,fun h => by rcases h with h | h; exact absurd h.symm hxi; have:=h2 h; omega⟩
        · simp only [List.mem_cons]
          exact ⟨h1,fun h => by rcases h with h | h; exact absurd h.symm hxi; exact h2 h⟩
  exact (key (List.range m) fun j hj => hL' j (List.mem_range.1 hj)).2 (List.mem_range.2 hi)
section
variable {C:Cx}
theorem Af5 {Q:Exit -> Act -> World -> Prop} {Tb:Tab} (hT:TabOk C.M Tb) (hsg:∀ f s,Tb.sg f = some s -> SigR C.M C.w0 C.P0 f s) (hpin:∀ t,Tb.pin t = false -> C.pv t = none) {ops:Array Oper} {Z ds U:List Nat} {fr fr':Fr} {Ws:List WS} {acc:List Info}
    (hp:DPath Tb C.n ops Z ds U [] ops.toList fr Ws acc fr') (hh:∀ t,∀ d ∈ ds,(fr t).1.on d = false) (hhU:∀ t,∀ i ∈ U,(fr t).1.onT i = false) (hQ:∀ a w P T,Sim C fr' a w P T -> Q .normal a w) :
    ∀ (fuel:Nat) (listed:Array Bool) (a:Act) (w:World) (P:Prot) (T:Nat -> List Nat),listed.size = ops.size ->
      (∀ k o,ops[k]? = some o -> listed.getD k true = true -> ∀ e ∈ o.after,binds e = true -> listed.getD e.on true = true) -> todo (fun i => listed.getD i true) ops.size <= fuel ->
      Sim C (sel (fun i => listed.getD i true) 0 Ws fr) a w P T -> wpAny C.M .any ops Q fuel listed a w:=by
  obtain ⟨_,hlen,hWs,hfr'⟩:=hp.acc
  have hat:∀ k o,ops[k]? = some o -> ∃ dl ad dd us e W,Ws[k]? = some W /\ AtK Tb C.n ops Z ds U acc k o (sel (fun j => decide (j < k)) 0 Ws fr) dl ad dd us e W:=fun k o hk => by
    have:=hp.at k o (by simpa using hk)
    simpa using this
  -- when every one is listed
  have hall:∀ (listed:Array Bool) (a:Act) (w:World) (P:Prot) (T:Nat -> List Nat),(∀ i,i < ops.size -> listed.getD i true = true) -> Sim C (sel (fun i => listed.getD i true) 0 Ws fr) a w P T -> Q .normal a w:=by
    intro listed a w P T hl hs
    refine hQ a w P T ?_
    have:sel (fun i => listed.getD i true) 0 Ws fr = fr':=by
      rw [hfr']
      funext t
      refine Pi (fun j W hj _ => ?_) rfl
      have hlt:=(List.getElem?_eq_some_iff.1 hj).1
      rw [hWs] at hlt
      simpa using hl j (by simpa using hlt)
    rw [<- this]
    exact hs
  have hready:∀ (listed:Array Bool),listed.size = ops.size -> Region.ready .any ops listed = [] -> ∀ i,i < ops.size -> listed.getD i true = true:=by
    intro listed hsz hr i
    induction i using Nat.strongRecOn with
    | _ i ih =>
      intro hi
      cases hli:listed.getD i true with
      | true => rfl
      | false =>
        exfalso
        have hmem:i ∈ Region.ready .any ops listed:=by
          unfold Region.ready
          refine List.mem_filter.2 ⟨List.mem_range.2 hi,?_⟩
          rw [hli,Array.getElem?_eq_getElem hi]
          simp only [Bool.not_false,Option.map_some,Option.getD_some,Bool.true_and]
          refine Array.all_eq_true'.2 fun e he => ?_
          obtain ⟨_,_,_,_,_,W,_,hk⟩:=hat i ops[i] (Array.getElem?_eq_getElem hi)
          cases hb:binds e with
          | false =>
            have hb':Region.binds .any e = false:=hb
            simp [hb']
          | true =>
            have hlt:=hk.lt e he hb
            have:=ih e.on hlt (by omega)
            have h2:listed.getD e.on false = true:=by
              have hs:e.on < listed.size:=by omega
              simpa [Array.getD,hs] using this
            simp [h2]
        rw [hr] at hmem
        simp at hmem
  intro fuel
  induction fuel with
  | zero =>
    intro listed a w P T hsz hcl hto hs
    have hl:=Afn (Nat.le_zero.1 hto)
    refine ⟨?_,hall listed a w P T hl hs⟩
    unfold Region.ready
    refine List.filter_eq_nil_iff.2 fun i hi => ?_
    rw [hl i (List.mem_range.1 hi)]
    simp
  | succ fuel ih =>
    intro listed a w P T hsz hcl hto hs
    refine ⟨fun hr => hall listed a w P T (hready listed hsz hr) hs,fun k hk => ?_⟩
    obtain ⟨hkr,hkp⟩:=List.mem_filter.1 hk
    have hkn:k < ops.size:=List.mem_range.1 hkr
    have ho:=Array.getElem?_eq_getElem hkn
    rw [ho] at hkp
    simp only [Bool.and_eq_true,Bool.not_eq_true',Option.map_some,Option.getD_some] at hkp
    obtain ⟨hkl,hpred⟩:=hkp
    have hpred':∀ e ∈ ops[k].after,binds e = true -> listed.getD e.on true = true:=fun e he hb => by
      have:=Array.all_eq_true'.1 hpred e he
      simp only [Bool.or_eq_true,Bool.not_eq_true'] at this
      rcases this with h | h
      · rw [show binds e = Region.binds .any e from rfl,h] at hb; cases hb
      · unfold Array.getD at h ⊢
        split
        · rename_i hlt; rw [dif_pos hlt] at h; exact h
        · rfl
    obtain ⟨dl,ad,dd,us,ek,W,hW,hkk⟩:=hat k ops[k] ho
    -- those that come ahead in every order are listed
    have hanc:∀ (f:Nat) (prs:List Nat) (j:Nat),(∀ m ∈ prs,listed.getD m true = true) -> ancB acc j f prs = true -> listed.getD j true = true:=by
      intro f
      induction f with
      | zero =>
        intro prs j hp hb
        exact hp j (by simpa [ancB] using hb)
      | succ f ihf =>
        intro prs j hp hb
        simp only [ancB,Bool.or_eq_true,List.any_eq_true,Bool.and_eq_true] at hb
        rcases hb with hb | ⟨m,hm,-,hb⟩
        · exact hp j (by simpa using hb)
        · cases hq:acc[m]? with
          | none => rw [hq] at hb; cases hb
          | some q =>
            rw [hq] at hb
            have hml:m < ops.size:=by
              have:=(List.getElem?_eq_some_iff.1 hq).1
              rw [hlen] at this
              simpa using this
            obtain ⟨_,_,_,_,_,_,_,hkm⟩:=hat m ops[m] (Array.getElem?_eq_getElem hml)
            rw [hkm.acc] at hq
            obtain rfl:=Option.some.inj hq
            refine ihf _ j (fun x hx => ?_) hb
            obtain ⟨e,he,rfl⟩:=List.mem_map.1 (show x ∈ predsOf ops[m] from hx)
            obtain ⟨he1,he2⟩:=List.mem_filter.1 he
            exact hcl m ops[m] (Array.getElem?_eq_getElem hml) (hp m hm) e (by simpa using he1) he2
    have hpre0:∀ (m:Nat) (hm:m < ops.size),(∀ e ∈ ops[m].after,binds e = true -> listed.getD e.on true = true) -> ∀ x ∈ predsOf ops[m],listed.getD x true = true:=fun m hm h x hx => by
      obtain ⟨e,he,rfl⟩:=List.mem_map.1 hx
      obtain ⟨he1,he2⟩:=List.mem_filter.1 he
      exact h e (by simpa using he1) he2
    have haccK:=hkk.acc
    -- who else writes a slot that is looked at or written here
    have hothers:∀ t,t ∈ rdZ Z ops (sel (fun j => decide (j < k)) 0 Ws fr) ops[k] ++ dl ++ ad \/ t ∈ wdom W -> ∀ j V,Ws[j]? = some V -> t ∈ wdom V -> j ≠ k -> listed.getD j true = decide (j < k):=by
      intro t ht j V hV htV hjk
      have hjn:j < ops.size:=by
        have:=(List.getElem?_eq_some_iff.1 hV).1
        rw [hWs] at this
        simpa using this
      obtain ⟨_,_,_,_,_,V',hV',hkj⟩:=hat j ops[j] (Array.getElem?_eq_getElem hjn)
      rw [hV] at hV'
      cases hV'
      rcases Nat.lt_or_gt_of_ne hjk with hlt | hgt
      · rw [decide_eq_true hlt]
        have haccJ:=hkj.acc
        rcases hkk.tied j _ hlt haccJ with ⟨d1,d2,d3⟩ | hin
        · rcases ht with ht | ht
          · exact absurd ht (Nk d1 (wrX_in htV))
          · exact absurd (wrX_in ht) (Nk d2 (wrX_in htV))
        · exact hanc _ _ j (hpre0 k hkn hpred') hin
      · rw [decide_eq_false (by omega)]
        rcases hkj.tied k _ hgt haccK with ⟨d1,d2,d3⟩ | hin
        · rcases ht with ht | ht
          · exact absurd (wrX_in htV) (Nk d3 ht)
          · exact absurd (wrX_in htV) (Nk d2 (wrX_in ht))
        · cases hlj:listed.getD j true with
          | false => rfl
          | true =>
            have:=hanc _ _ k (hpre0 j hjn fun e he hb => hcl j ops[j] (Array.getElem?_eq_getElem hjn) hlj e he hb) hin
            rw [hkl] at this
            cases this
    have hkk':∀ j V,Ws[j]? = some V -> j = k -> V = W:=fun j V hV e => by subst e; rw [hW] at hV; exact (Option.some.inj hV).symm
    unfold wpOp
    rw [ho]
    simp only
    have hrd:∀ t ∈ rdZ Z ops (sel (fun j => decide (j < k)) 0 Ws fr) ops[k] ++ dl ++ ad,sel (fun j => decide (j < k)) 0 Ws fr t = sel (fun i => listed.getD i true) 0 Ws fr t:=fun t ht => by
      refine Pi (fun j V hV htV => ?_) rfl
      rw [Nat.zero_add]
      by_cases hjk:j = k
      · subst hjk
        rw [hkl]
        simp
      · exact (hothers t (.inl ht) j V hV htV hjk).symm
    -- whoever wrote an entry that hangs on a slot written here
    have hlast:∀ t,t ∉ wdom W -> ∀ i ∈ wdom W,∀ (H:Ent -> Bool),(∀ e:Ent,H e = true -> e.on i = true) -> H (fr t).1 = false ->
        (∀ j q,j < k -> acc[j]? = some q -> t ∈ q.2.2.1 -> H q.2.2.2.1 = true -> t ∈ dl ++ ad) -> (∀ j (hj:j < ops.size) q,k < j -> acc[j]? = some q -> H q.2.2.2.1 = true -> i ∈ q.1) -> H (sel (fun j => decide (j < k)) 0 Ws fr t).1 = false ->
        H (sel (fun i => listed.getD i true) 0 Ws fr t).1 = false:=by
      intro t ht i hi H hH hb0 hlo hhi htext
      cases hx':H (sel (fun i => listed.getD i true) 0 Ws fr t).1 with
      | false => rfl
      | true =>
        exfalso
        rcases Vf (L:=fun i => listed.getD i true) (t:=t) (Ws:=Ws) (i:=0) (fr:=fr) with hb | ⟨j,V,p,hV,hLj,hp,hpt,hx⟩
        · rw [hb,hb0] at hx'; cases hx'
        · rw [Nat.zero_add] at hLj
          have hjk:j ≠ k:=fun e => by subst e; rw [hkl] at hLj; cases hLj
          have hjn:j < ops.size:=by
            have:=(List.getElem?_eq_some_iff.1 hV).1
            rw [hWs] at this
            simpa using this
          obtain ⟨_,_,_,_,ej,V',hV',hkj⟩:=hat j ops[j] (Array.getElem?_eq_getElem hjn)
          rw [hV] at hV'
          cases hV'
          rw [hx] at hx'
          rcases hkj.op.ent p hp with hno | ⟨hpd,hpe⟩
          · have:=hH _ hx'; rw [hno i] at this; cases this
          · rw [hpe] at hx'
            rcases Nat.lt_or_gt_of_ne hjk with hlt | hgt
            · have htd:=hlo j _ hlt hkj.acc (by rw [<- hpt]; exact hpd) hx'
              have e:=hrd t (by rw [List.append_assoc]; exact List.mem_append_right _ htd)
              rw [e,hx,hpe,hx'] at htext
              cases htext
            · have hbase:=hhi j hjn _ hgt hkj.acc hx'
              rcases hkj.tied k _ hgt haccK with ⟨d1,d2,d3⟩ | hin
              · exact absurd hbase (Nk d1 (wrX_in hi))
              · have:=hanc _ _ k (hpre0 j hjn fun e he hb => hcl j ops[j] (Array.getElem?_eq_getElem hjn) hLj e he hb) hin
                rw [hkl] at this
                cases this
    have hdomW:=hkk.op.dom
    have hfree:Free us (wdom W) (sel (fun i => listed.getD i true) 0 Ws fr):=fun t ht i hi =>
      hlast t ht i (by rw [hdomW]; exact List.mem_append_left _ (List.mem_append_left _ hi)) (fun e => e.onT i) (fun e h => onT_on h) (hhU t i (hkk.hus i hi))
        (fun j q hj hq htq hH => List.mem_append_left _ (hkk.hdl j q hj hq t htq i hi hH))
        (fun j hj q _ hq hH => by
          obtain ⟨_,_,_,_,_,_,_,hkj⟩:=hat j ops[j] (Array.getElem?_eq_getElem hj)
          rw [hkj.acc] at hq
          obtain rfl:=Option.some.inj hq
          exact List.mem_append_left _ (List.mem_append_left _ (hkj.base i (hkk.hus i hi) hH))) (hkk.op.free.1 t ht i hi)
    have hfreeD:FreeD ops[k].dst (wdom W) (sel (fun i => listed.getD i true) 0 Ws fr):=fun t ht d hd =>
      hlast t ht d (by rw [hdomW]; exact List.mem_append_right _ (by rw [hd]; simp)) (fun e => e.on d) (fun e h => h) (hh t d (hkk.hds d hd))
        (fun j q hj hq htq hH => List.mem_append_right _ (hkk.had j q hj hq t htq d hd hH))
        (fun j hj q _ hq hH => by
          obtain ⟨_,_,_,_,_,_,_,hkj⟩:=hat j ops[j] (Array.getElem?_eq_getElem hj)
          rw [hkj.acc] at hq
          obtain rfl:=Option.some.inj hq
          exact List.mem_append_left _ (List.mem_append_left _ (hkj.baseD d (hkk.hds d hd) hH))) (hkk.op.free.2.1 t ht d hd)
    have hset:∀ j,(listed.setIfInBounds k true).getD j true = (listed.getD j true || j == k):=fun j => by
      have hks:k < listed.size:=by omega
      by_cases hjk:j = k
      · subst hjk; simp [Array.getD,hks]
      · simp only [Array.getD,Array.size_setIfInBounds]
        split
        · rename_i hj
          simp only [Array.getInternal_eq_getElem]
          rw [Array.getElem_setIfInBounds_ne hj (Ne.symm hjk)]
          simp [hjk]
        · rfl
    have hkz:∀ j W,Ws[j]? = some W -> KeepZ Z (sel (fun i => decide (i < j)) 0 Ws fr) W:=fun j V hV => by
      have hjn:j < ops.size:=by
        have:=(List.getElem?_eq_some_iff.1 hV).1
        rw [hWs] at this
        simpa using this
      obtain ⟨_,_,_,_,_,V',hV',hkj⟩:=hat j ops[j] (Array.getElem?_eq_getElem hjn)
      rw [hV] at hV'
      cases hV'
      exact hkj.kz
    have hkE:∀ t ∈ Z,kindE (sel (fun j => decide (j < k)) 0 Ws fr t).1 = kindE (sel (fun i => listed.getD i true) 0 Ws fr t).1:=fun t ht => (Acs hkz ht _).trans (Acs hkz ht _).symm
    have hsf:∀ t,t + sB ∈ rdZ Z ops (sel (fun j => decide (j < k)) 0 Ws fr) ops[k] -> tupK (sel (fun j => decide (j < k)) 0 Ws fr t) = tupK (sel (fun i => listed.getD i true) 0 Ws fr t):=fun t htr => by
      have hget:∀ j V,Ws[j]? = some V -> ∃ hj:j < ops.size,∃ dl ad dd us e,AtK Tb C.n ops Z ds U acc j ops[j] (sel (fun i => decide (i < j)) 0 Ws fr) dl ad dd us e V:=fun j V hV => by
        have hjn:j < ops.size:=by
          have:=(List.getElem?_eq_some_iff.1 hV).1
          rw [hWs] at this
          simpa using this
        obtain ⟨dl,ad,dd,us,e,V',hV',hkj⟩:=hat j ops[j] (Array.getElem?_eq_getElem hjn)
        rw [hV] at hV'
        cases hV'
        exact ⟨hjn,dl,ad,dd,us,e,hkj⟩
      refine Agn (S:=fun j => match ops[j]? with | some o => swOf o == some t | none => false) (fun j V hV hS p hp hpt => ?_) (fun j V hV ht hS => ?_) (fun i j W V hW hV hti htj hij hS hLj => ?_)
      · obtain ⟨hjn,_,_,_,_,_,hkj⟩:=hget j V hV
        rw [Array.getElem?_eq_getElem hjn] at hS
        exact hkj.op.keepS t (by simpa using hS) p hp hpt
      · obtain ⟨hjn,_,_,_,_,_,hkj⟩:=hget j V hV
        rw [Array.getElem?_eq_getElem hjn] at hS
        have hhard:=Ah3 (o:=ops[j]) ht (by simpa using hS)
        by_cases hjk:j = k
        · subst hjk
          rw [hkl]
          simp
        rcases Nat.lt_or_gt_of_ne hjk with hlt | hgt
        · rw [decide_eq_true hlt]
          rcases hkk.tied j _ hlt hkj.acc with ⟨d1,d2,d3⟩ | hin
          · exact absurd (List.mem_append_left _ (List.mem_append_left _ htr)) (Nk d1 hhard)
          · exact hanc _ _ j (hpre0 k hkn hpred') hin
        · rw [decide_eq_false (by omega)]
          rcases hkj.tied k _ hgt haccK with ⟨d1,d2,d3⟩ | hin
          · exact absurd hhard (Nk d3 (List.mem_append_left _ (List.mem_append_left _ htr)))
          · cases hlj:listed.getD j true with
            | false => rfl
            | true =>
              have:=hanc _ _ k (hpre0 j hjn fun e he hb => hcl j ops[j] (Array.getElem?_eq_getElem hjn) hlj e he hb) hin
              rw [hkl] at this
              cases this
      · obtain ⟨hin',_,_,_,_,_,hki⟩:=hget i W hW
        obtain ⟨hjn,_,_,_,_,_,hkj⟩:=hget j V hV
        rcases hkj.tied i _ hij hki.acc with ⟨d1,d2,d3⟩ | hin
        · exact absurd (wrX_in htj) (Nk d2 (wrX_in hti))
        · exact hanc _ _ i (hpre0 j hjn fun e he hb => hcl j ops[j] (Array.getElem?_eq_getElem hjn) hLj e he hb) hin
    have hrd0:∀ t ∈ rdZ Z ops (sel (fun j => decide (j < k)) 0 Ws fr) ops[k],sel (fun j => decide (j < k)) 0 Ws fr t = sel (fun i => listed.getD i true) 0 Ws fr t:=fun t ht => hrd t (List.mem_append_left _ (List.mem_append_left _ ht))
    have hstep:=hkk.op.sound (Q:=Q) hT hsg hpin (Ad4 hrd0) (Afp hrd0 hkE hsf fun t ht => hrd t (List.mem_append_left _ (List.mem_append_right _ ht))) (fun t ht => hrd t (List.mem_append_right _ (hkk.sub t ht))) hfree hfreeD hkk.ddT hs (K:=wpAny C.M .any ops Q fuel (listed.setIfInBounds k true)) fun a' w' P' T' h' => by
      refine ih (listed.setIfInBounds k true) a' w' P' T' (by simpa using hsz) ?_ ?_ ?_
      · intro j o hj hjl e he hb
        rw [hset] at hjl ⊢
        simp only [Bool.or_eq_true,beq_iff_eq] at hjl ⊢
        rcases hjl with hjl | rfl
        · exact .inl (hcl j o hj hjl e he hb)
        · rw [ho] at hj
          cases hj
          exact .inl (hpred' e he hb)
      · have:=Ah2 (L:=fun i => listed.getD i true) (L':=fun i => (listed.setIfInBounds k true).getD i true) hkn hkl fun j _ => hset j
        omega
      · have:sel (fun i => (listed.setIfInBounds k true).getD i true) 0 Ws fr = app (sel (fun i => listed.getD i true) 0 Ws fr) W:=by
          funext t
          by_cases ht:t ∈ wdom W
          · have e1:sel (fun i => (listed.setIfInBounds k true).getD i true) 0 Ws fr t = sel (fun j => decide (j < 0 + k + 1)) 0 Ws fr t:=by
              refine Pi (fun j V hV htV => ?_) rfl
              rw [Nat.zero_add,Nat.zero_add,hset]
              by_cases hjk:j = k
              · subst hjk; simp
              · rw [hothers t (.inr ht) j V hV htV hjk]
                have:(j == k) = false:=by simpa using hjk
                rw [this,Bool.or_false]
                by_cases hlt:j < k
                · rw [decide_eq_true hlt,decide_eq_true (by omega)]
                · rw [decide_eq_false hlt,decide_eq_false (by omega)]
            rw [e1,Px hW]
            exact Si (.inr ht)
          · rw [app_not ht]
            refine Pi (fun j V hV htV => ?_) rfl
            rw [Nat.zero_add,hset]
            by_cases hjk:j = k
            · exact absurd (hkk' j V hV hjk ▸ htV) ht
            · simp [hjk]
        rw [this]
        exact h'
    split
    · rename_i hw; rw [if_pos hw] at hstep; exact .inl hstep
    · rename_i hw; rw [if_neg hw] at hstep; exact hstep
end
end Go.Abs
