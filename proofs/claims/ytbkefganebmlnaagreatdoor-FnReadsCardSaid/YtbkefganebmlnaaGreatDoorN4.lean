/-
  The meta layer, part 4: a frame of typed data stands for a frame and memory of the machine; how that is carried over a step.
-/
import Derived.Test.YtbkefganebmlnaaGreatDoorN3
namespace Go.Abs
open Go.RowKit
set_option linter.unusedVariables false
set_option linter.unusedSimpArgs false
abbrev Fr:=Nat -> Ex Unit
def Loc.inU (U:List Nat):Loc -> Prop
  | .vals _ => True
  | .mem b _ => b ∈ U
theorem Loc.head_same {w w':World} {U:List Nat} (hU:∀ b ∈ U,SameB w w' b) {L:Loc} (hL:L.inU U):L.head w' = L.head w:=by
  cases L with
  | vals l => rfl
  | mem b o => exact (hU b hL).2 o
theorem Loc.is_same {w w':World} {U:List Nat} (hU:∀ b ∈ U,SameB w w' b) {L:Loc} (hL:L.inU U) {cs:List Value} (h:L.is w cs):L.is w' cs:=by
  cases L with
  | vals l => exact h
  | mem b o => exact CellsIn.same h (hU b hL)
theorem Loc.inU_sub {U:List Nat} {L:Loc} (hL:L.inU U) (a b:Nat):(L.sub a b).inU U:=by
  cases L <;> exact hL
theorem Vk {w w':World} {U:List Nat} (hU:∀ b ∈ U,SameB w w' b):∀ (q:List PStep) {t:Ty} {L:Loc} {is:List Int},L.inU U -> res w' U t L q is = res w U t L q is
  | [],t,L,is,hL => by cases is <;> cases t <;> rfl
  | .fld n :: q,t,L,is,hL => by
    cases t <;> try rfl
    rename_i ts
    simp only [res]
    split
    · exact Vk hU q (Loc.inU_sub hL _ _)
    · rfl
  | .idx :: q,t,L,is,hL => by
    cases t <;> try rfl
    cases is with
    | nil => rfl
    | cons i is =>
      simp only [res,Loc.head_same hU hL]
      split
      · split
        · rename_i h; exact Vk hU q h.1
        · rfl
      · rfl
  | .drf :: q,t,L,is,hL => by
    cases t <;> try rfl
    simp only [res,Loc.head_same hU hL]
    split
    · split
      · rename_i h; exact Vk hU q h
      · rfl
    · rfl
theorem res_inU {w:World} {U:List Nat}:∀ (q:List PStep) {t t':Ty} {L L':Loc} {is:List Int},L.inU U -> res w U t L q is = some (t',L') -> L'.inU U /\ is.length = idxs q
  | [],t,t',L,L',is,hL,h => by
    cases is with
    | nil =>
      cases t <;> simp only [res,Option.some.injEq,Prod.mk.injEq] at h <;> obtain ⟨_,rfl⟩:=h <;> exact ⟨hL,rfl⟩
    | cons i is => cases t <;> simp [res] at h
  | .fld n :: q,t,t',L,L',is,hL,h => by
    cases t <;> simp only [res] at h <;> try (cases h; done)
    split at h
    · have:=res_inU q (Loc.inU_sub hL _ _) h
      simpa [idxs] using this
    · cases h
  | .idx :: q,t,t',L,L',is,hL,h => by
    cases is with
    | nil => cases t <;> simp [res] at h
    | cons i is =>
      cases t <;> simp only [res] at h <;> try (cases h; done)
      split at h
      · split at h
        · rename_i hb
          have:=res_inU q (L:=.mem _ _) hb.1 h
          exact ⟨this.1,by simp [idxs,this.2]⟩
        · cases h
      · cases h
  | .drf :: q,t,t',L,L',is,hL,h => by
    cases t <;> simp only [res] at h <;> try (cases h; done)
    split at h
    · split at h
      · rename_i hb
        have:=res_inU q (L:=.mem _ _) hb h
        simpa [idxs] using this
      · cases h
    · cases h
abbrev resT (w:World) (tmps:Nat -> Value) (Tf:Nat -> List Nat) (i:Nat) (t0:Ty) (q:List PStep) (is:List Int):Option (Ty × Loc):=res w (Tf i) t0 (.vals (tmps i).cells.toList) q is
def RepE (M:Program) (w:World) (P:Prot) (tmps:Nat -> Value) (Tf:Nat -> List Nat):Ex Unit -> Value -> List Nat -> Prop
  | ⟨.non,_⟩,_,T => T = []
  | ⟨.val t m,f⟩,v,T => RepV M t w P m (f ()) v T
  | ⟨.pl i t0 q t,f⟩,v,T => T = [] /\ ∃ b off,v = .pointer (some ⟨b,off,none⟩) /\ resT w tmps Tf i t0 q (f ()) = some (t,.mem b off)
  | ⟨.av i t0 q t,f⟩,v,T => T = [] /\ ∃ L cs,resT w tmps Tf i t0 q (f ()) = some (t,L) /\ L.is w cs /\ cs.length = t.size /\ v = valOf t cs
  | ⟨.pa i t0 q t,f⟩,v,T => T = [] /\ ∃ L cs b off,resT w tmps Tf i t0 q (f ()) = some (t,L) /\ L.is w cs /\ cs.length = t.size /\ v = .pointer (some ⟨b,off,none⟩) /\ CellsAt w P b off cs
  | ⟨.kb b,_⟩,v,T => T = [] /\ v = .bool b
  | ⟨.und,_⟩,v,T => T = [] /\ v = undef
  | ⟨.pb o t,_⟩,v,T => T = [] /\ ∃ b n,tmps gK = .slice (some ⟨b,0,none⟩) n n /\ v = .pointer (some ⟨b,o,none⟩) /\ o + t.size <= n
def Act.at (a:Act) (t:Nat):Value:=a.tmps.getD t undef
theorem Su {w w':World} {tmps tmps':Nat -> Value} {Tf Tf':Nat -> List Nat} {i:Nat} {t0:Ty} {q:List PStep} {is:List Int} (ht:tmps' i = tmps i)
    (hT:q.isEmpty = false -> Tf' i = Tf i /\ ∀ b ∈ Tf i,SameB w w' b):resT w' tmps' Tf' i t0 q is = resT w tmps Tf i t0 q is:=by
  unfold resT
  rw [ht]
  cases q with
  | nil => cases is <;> cases t0 <;> rfl
  | cons s q =>
    obtain ⟨h1,h2⟩:=hT rfl
    rw [h1]
    exact Vk h2 _ trivial
theorem resT_is {w w':World} {tmps:Nat -> Value} {Tf:Nat -> List Nat} {i:Nat} {t0 t:Ty} {q:List PStep} {is:List Int} {L:Loc} {cs:List Value} (h:resT w tmps Tf i t0 q is = some (t,L))
    (hT:q.isEmpty = false -> ∀ b ∈ Tf i,SameB w w' b) (hL:L.is w cs):L.is w' cs:=by
  cases q with
  | nil =>
    unfold resT at h
    cases is with
    | nil => cases t0 <;> simp only [res,Option.some.injEq,Prod.mk.injEq] at h <;> obtain ⟨_,rfl⟩:=h <;> exact hL
    | cons i is => cases t0 <;> simp [res] at h
  | cons s q => exact Loc.is_same (hT rfl) (res_inU _ (L:=.vals _) trivial h).1 hL
theorem RepE.mono {M:Program} {w w':World} {P P':Prot} {tmps tmps':Nat -> Value} {Tf Tf':Nat -> List Nat} {x:Ex Unit} {v:Value} {T:List Nat}
    (h:RepE M w P tmps Tf x v T) (hk:Keeps w P w' P' T) (ht:∀ i,x.1.on i = true -> tmps' i = tmps i) (hT:∀ i,x.1.onT i = true -> Tf' i = Tf i /\ ∀ b ∈ Tf i,SameB w w' b):RepE M w' P' tmps' Tf' x v T:=by
  obtain ⟨e,f⟩:=x
  cases e with
  | non => exact h
  | val t m => exact RepV.mono t h hk
  | pl i t0 q t =>
    obtain ⟨h1,b,off,h2,h3⟩:=h
    exact ⟨h1,b,off,h2,(Su (q:=q) (ht i (by simp [Ent.on])) fun hq => hT i (by simp only [Ent.onT,hq]; simp)).trans h3⟩
  | pb o t =>
    obtain ⟨h1,b,n,h2,h3⟩:=h
    exact ⟨h1,b,n,(ht gK (by simp [Ent.on])).trans h2,h3⟩
  | av i t0 q t =>
    obtain ⟨h1,L,cs,h2,h3,h4,h5⟩:=h
    exact ⟨h1,L,cs,(Su (q:=q) (ht i (by simp [Ent.on])) fun hq => hT i (by simp only [Ent.onT,hq]; simp)).trans h2,resT_is h2 (fun hq => (hT i (by simp only [Ent.onT,hq]; simp)).2) h3,h4,h5⟩
  | pa i t0 q t =>
    obtain ⟨h1,L,cs,b,off,h2,h3,h4,h5,h6⟩:=h
    exact ⟨h1,L,cs,b,off,(Su (q:=q) (ht i (by simp [Ent.on])) fun hq => hT i (by simp only [Ent.onT,hq]; simp)).trans h2,resT_is h2 (fun hq => (hT i (by simp only [Ent.onT,hq]; simp)).2) h3,h4,h5,h6.mono hk.later⟩
  | kb b => exact h
  | und => exact h
structure Cx where
  M:Program
  n:Nat
  pv:Nat -> Option Value
  F:List Nat
  w0:World
  P0:Prot
  gb:Option Nat
  gn:Nat
def Cx.at (C:Cx) (a:Act) (w:World) (t:Nat):Value:=
  if t < gB then Act.at a t else match C.gb with
  | none => undef
  | some b => if t = gK then .slice (some ⟨b,0,none⟩) C.gn C.gn else (w.cell? ⟨b,t - gB,none⟩).getD undef
theorem Cx.at_n {C:Cx} {a:Act} {w:World} {t:Nat} (h:t < gB):C.at a w t = Act.at a t:=by unfold Cx.at; rw [if_pos h]
theorem Cx.at_K {C:Cx} {a a':Act} {w w':World}:C.at a' w' gK = C.at a w gK:=by
  unfold Cx.at
  rw [if_neg (by decide),if_neg (by decide)]
  cases C.gb with
  | none => rfl
  | some b => simp
def slots (n:Nat):List Nat:=List.range n ++ (List.range 64).map (gB + ·)
def slotB (n t:Nat):Bool:=decide (t < n) || (isG t && Nat.ble (t + 1) (gB + 64))
theorem Qw {n t:Nat}:slotB n t = true ↔ t ∈ slots n:=by
  unfold slotB slots
  rw [Bool.or_eq_true,Bool.and_eq_true,decide_eq_true_eq,isG_iff,List.mem_append,List.mem_range,List.mem_map]
  constructor
  · rintro (h | ⟨h1,h2⟩)
    · exact .inl h
    · exact .inr ⟨t - gB,List.mem_range.2 (by have:=Nat.le_of_ble_eq_true h2; omega),by omega⟩
  · rintro (h | ⟨k,hk,rfl⟩)
    · exact .inl h
    · have:=List.mem_range.1 hk
      exact .inr ⟨by omega,Nat.ble_eq_true_of_le (by omega)⟩
theorem Ahm {n t:Nat} (h:t ∈ slots n) (hg:t < gB):t < n:=by
  rw [<- Qw] at h
  unfold slotB at h
  rw [Bool.or_eq_true,Bool.and_eq_true,decide_eq_true_eq,isG_iff] at h
  omega
theorem slots_n {n t:Nat} (h:t < n):t ∈ slots n:=List.mem_append.2 (.inl (List.mem_range.2 h))
structure Sim (C:Cx) (fr:Fr) (a:Act) (w:World) (P:Prot) (T:Nat -> List Nat):Prop where
  size:a.tmps.size = C.n
  defers:a.defers = []
  dom:∀ t,t ∉ slots C.n -> fr t = Ex.non
  tdom:∀ t,t ∉ slots C.n -> T t = []
  pext:PExt C.F C.w0 C.P0 w P
  rep:∀ t,RepE C.M w P (C.at a w) T (fr t) (C.at a w t) (T t)
  nodup:∀ t,(T t).Nodup
  apart:∀ t u,t ≠ u -> ∀ b ∈ T t,b ∉ T u
  new:∀ t,∀ b ∈ T t,(C.w0.heap.size <= b \/ b ∈ C.F) /\ b < w.heap.size
  pin:∀ t v,C.pv t = some v -> Act.at a t = v
  gown:∀ b,C.gb = some b -> (C.w0.heap.size <= b \/ b ∈ C.F) /\ b < w.heap.size /\ (∀ t,b ∉ T t) /\ (∃ e,RowIs w b e C.gn) /\ ∀ o,¬ P b o
theorem Sim.there {C:Cx} {fr:Fr} {a:Act} {w:World} {P:Prot} {T:Nat -> List Nat} (h:Sim C fr a w P T):There w P:=h.pext.there
theorem Sim.stepG {C:Cx} {fr:Fr} {a:Act} {w:World} {P:Prot} {T:Nat -> List Nat} (h:Sim C fr a w P T)
    {fr':Fr} {a':Act} {w':World} {P':Prot} {T':Nat -> List Nat} (ks:List Nat)
    (hsz:a'.tmps.size = C.n) (hd:a'.defers = []) (hdom:∀ t,t ∉ slots C.n -> fr' t = Ex.non) (htdom:∀ t,t ∉ slots C.n -> T' t = []) (hp:PExt C.F C.w0 C.P0 w' P') (hw:w.heap.size <= w'.heap.size)
    (hk:∀ S:List Nat,(∀ b ∈ S,b < w.heap.size /\ b ∉ ks.flatMap T /\ C.gb ≠ some b) -> Keeps w P w' P' S)
    (hg:∀ b,C.gb = some b -> (∃ e,RowIs w' b e C.gn) /\ ∀ o,¬ P' b o)
    (hsame:∀ t,t ∉ ks -> C.at a' w' t = C.at a w t)
    (hother:∀ t,t ∉ ks -> (fr' t = fr t /\ T' t = T t /\ (∀ i,(fr t).1.on i = true -> C.at a' w' i = C.at a w i) /\ ∀ i,(fr t).1.onT i = true -> i ∉ ks /\ T' i = T i) \/ (fr' t = Ex.non /\ T' t = []))
    (hks:∀ t,t ∈ ks -> RepE C.M w' P' (C.at a' w') T' (fr' t) (C.at a' w' t) (T' t)) (hnd:∀ t,t ∈ ks -> (T' t).Nodup)
    (hap:∀ t u,t ∈ ks -> u ∈ ks -> t ≠ u -> ∀ b ∈ T' t,b ∉ T' u)
    (hsub:∀ t,t ∈ ks -> ∀ b ∈ T' t,b ∈ ks.flatMap T \/ (w.heap.size <= b /\ b < w'.heap.size))
    (hpin:∀ t v,C.pv t = some v -> Act.at a' t = Act.at a t) :
    Sim C fr' a' w' P' T':=by
  have hoff:∀ t,t ∉ ks -> ∀ b ∈ T t,b < w.heap.size /\ b ∉ ks.flatMap T /\ C.gb ≠ some b:=fun t hn b hb =>
    ⟨(h.new t b hb).2,fun hm => by
      obtain ⟨u,hu,hbu⟩:=List.mem_flatMap.1 hm
      exact h.apart t u (fun e => hn (e ▸ hu)) b hb hbu,fun e => (h.gown b e).2.2.1 t hb⟩
  have hT:∀ t,t ∉ ks -> ∀ b ∈ T' t,b ∈ T t:=fun t hn b hb => by
    rcases hother t hn with ⟨_,e,_⟩ | ⟨_,e⟩
    · exact e ▸ hb
    · rw [e] at hb; simp at hb
  have hsub':∀ t,t ∈ ks -> ∀ b ∈ T' t,(∃ u,u ∈ ks /\ b ∈ T u) \/ (w.heap.size <= b /\ b < w'.heap.size):=fun t hm b hb => by
    rcases hsub t hm b hb with hx | hx
    · obtain ⟨u,hu,hbu⟩:=List.mem_flatMap.1 hx; exact .inl ⟨u,hu,hbu⟩
    · exact .inr hx
  have hw0:=h.pext.size
  refine ⟨hsz,hd,hdom,htdom,hp,fun t => ?_,fun t => ?_,fun t u htu b hb hb' => ?_,fun t b hb => ?_,fun t v hv => ?_,fun b hb => ?_⟩
  · by_cases hm:t ∈ ks
    · exact hks t hm
    · rcases hother t hm with ⟨e1,e2,e3,e4⟩ | ⟨e1,e2⟩
      · rw [e1,e2,hsame t hm]
        exact (h.rep t).mono (hk _ (hoff t hm)) e3 fun i hi => ⟨(e4 i hi).2,fun b hb => (hk _ (hoff i (e4 i hi).1)).block b hb⟩
      · rw [e1,e2]; rfl
  · by_cases hm:t ∈ ks
    · exact hnd t hm
    · rcases hother t hm with ⟨e1,e2,e3⟩ | ⟨e1,e2⟩
      · rw [e2]; exact h.nodup t
      · rw [e2]; exact List.nodup_nil
  · by_cases hm:t ∈ ks
    · by_cases hm':u ∈ ks
      · exact hap t u hm hm' htu b hb hb'
      · have hbu:=hT u hm' b hb'
        rcases hsub' t hm b hb with ⟨k,hk1,hk2⟩ | hx
        · exact h.apart k u (fun e => hm' (e ▸ hk1)) b hk2 hbu
        · have:=(h.new u b hbu).2; omega
    · have hbt:=hT t hm b hb
      by_cases hm':u ∈ ks
      · rcases hsub' u hm' b hb' with ⟨k,hk1,hk2⟩ | hx
        · exact h.apart t k (fun e => hm (e ▸ hk1)) b hbt hk2
        · have:=(h.new t b hbt).2; omega
      · exact h.apart t u htu b hbt (hT u hm' b hb')
  · by_cases hm:t ∈ ks
    · rcases hsub' t hm b hb with ⟨k,hk1,hk2⟩ | hx
      · have:=h.new k b hk2
        exact ⟨this.1,by omega⟩
      · exact ⟨.inl (by omega),hx.2⟩
    · have:=h.new t b (hT t hm b hb)
      exact ⟨this.1,by omega⟩
  · rw [hpin t v hv]; exact h.pin t v hv
  · obtain ⟨g1,g2,g3,g4,g5⟩:=h.gown b hb
    refine ⟨g1,by omega,fun t hm => ?_,hg b hb⟩
    by_cases ht:t ∈ ks
    · rcases hsub' t ht b hm with ⟨k,hk1,hk2⟩ | hx
      · exact g3 k hk2
      · omega
    · exact g3 t (hT t ht b hm)
theorem Cx.at_same {C:Cx} {a:Act} {w w':World} (h:∀ b,C.gb = some b -> SameB w w' b) (t:Nat):C.at a w' t = C.at a w t:=by
  unfold Cx.at
  split
  · rfl
  · split
    · rfl
    · rename_i b hb
      split
      · rfl
      · rw [(h b hb).2]
theorem Sim.gsame {C:Cx} {fr:Fr} {a:Act} {w:World} {P:Prot} {T:Nat -> List Nat} (h:Sim C fr a w P T) {w':World} {P':Prot} {D:List Nat} (hD:∀ b ∈ D,∃ t,b ∈ T t)
    (hk:∀ S:List Nat,(∀ b ∈ S,b < w.heap.size /\ b ∉ D) -> Keeps w P w' P' S):∀ b,C.gb = some b -> SameB w w' b /\ (∃ e,RowIs w' b e C.gn) /\ ∀ o,¬ P' b o:=fun b hb => by
  obtain ⟨g1,g2,g3,⟨e,g5⟩,g4⟩:=h.gown b hb
  have k:=hk [b] fun c hc => by
    rw [List.mem_singleton.1 hc]
    exact ⟨g2,fun hm => by obtain ⟨t,ht⟩:=hD b hm; exact g3 t ht⟩
  exact ⟨k.block b (by simp),⟨e,(k.block b (by simp)).1 e _ g5⟩,fun o hp => g4 o (k.old b (by simp) o hp)⟩
def put (fr:Fr) (d:Nat) (x:Ex Unit):Fr:=fun t => if t = d then x else if (fr t).1.on d then Ex.non else fr t
def setE (fr:Fr) (i:Nat) (x:Ex Unit):Fr:=fun t => if t = i then x else fr t
abbrev WS:=List (Nat × Ex Unit)
def app (fr:Fr) (W:WS):Fr:=W.foldl (fun f p => setE f p.1 p.2) fr
def wdom (W:WS):List Nat:=W.map (·.1)
theorem app_not {t:Nat}:∀ {W:WS} {fr:Fr},t ∉ wdom W -> app fr W t = fr t
  | [],fr,_ => rfl
  | p :: W,fr,h => by
    have hp:t ≠ p.1:=fun e => h (by simp [wdom,e])
    have hW:t ∉ wdom W:=fun e => h (by simp only [wdom,List.map_cons,List.mem_cons]; exact .inr e)
    show app (setE fr p.1 p.2) W t = _
    rw [app_not hW]
    unfold setE
    rw [if_neg hp]
theorem app_mem {t:Nat}:∀ {W:WS} {fr:Fr},t ∈ wdom W -> (t,app fr W t) ∈ W
  | [],fr,h => by simp [wdom] at h
  | p :: W,fr,h => by
    show (t,app (setE fr p.1 p.2) W t) ∈ _
    by_cases hW:t ∈ wdom W
    · exact List.mem_cons_of_mem _ (app_mem hW)
    · rw [app_not hW]
      have hp:t = p.1:=by simpa [wdom,List.mem_cons,show t ∉ W.map (·.1) from hW] using h
      unfold setE
      rw [if_pos hp]
      subst hp
      exact List.mem_cons_self
theorem Act.at_put {a:Act} {d:Nat} {v:Value} (hd:d < a.tmps.size) (t:Nat):Act.at (a.put (some d) v) t = if t = d then v else Act.at a t:=by
  unfold Act.at Act.put
  by_cases h:t = d
  · subst h; simp [hd]
  · simp [h,Array.getElem?_setIfInBounds_ne (Ne.symm h)]
theorem Act.size_put (a:Act) (d:Option Nat) (v:Value):(a.put d v).tmps.size = a.tmps.size:=by
  cases d <;> simp [Act.put]
theorem Act.defers_put (a:Act) (d:Option Nat) (v:Value):(a.put d v).defers = a.defers:=by
  cases d <;> rfl
def updF (fr:Fr) (dst:Option Nat) (x:Ex Unit) (us:WS):Fr:=
  match dst with
  | some d => put (app fr us) d x
  | none => app fr us
def Ent.own:Ent -> Bool
  | .non | .val _ _ => true
  | _ => false
theorem Ent.own_on {e:Ent} (h:e.own = true) (d:Nat):e.on d = false:=by cases e <;> simp_all [Ent.own,Ent.on]
def updT (fr:Fr) (dst:Option Nat) (us:WS) (T Tn:Nat -> List Nat):Nat -> List Nat:=fun t =>
  if some t = dst \/ t ∈ wdom us then Tn t else T t
theorem Sim.updG {C:Cx} {fr:Fr} {a:Act} {w:World} {P:Prot} {T:Nat -> List Nat} (h:Sim C fr a w P T) {dst:Option Nat} {x:Ex Unit} {v:Value} {us:WS} {w':World} {P':Prot} (Tn:Nat -> List Nat)
    (hd:∀ d,dst = some d -> (d < C.n /\ d < gB) /\ C.pv d = none /\ x.1.on d = false /\ d ∉ wdom us) (hus:∀ p ∈ us,p.1 ∈ slots C.n /\ p.2.1.own = true)
    (hcov:∀ k,∀ i ∈ wdom us,(fr k).1.onT i = true -> some k = dst \/ k ∈ wdom us)
    (hp:PExt C.F C.w0 C.P0 w' P') (hw:w.heap.size <= w'.heap.size)
    (hk:∀ S:List Nat,(∀ b ∈ S,b < w.heap.size /\ b ∉ (wdom us).flatMap T /\ C.gb ≠ some b) -> Keeps w P w' P' S)
    (hg:∀ b,C.gb = some b -> (∃ e,RowIs w' b e C.gn) /\ ∀ o,¬ P' b o) (hgw:∀ t,t ∉ wdom us -> C.at a w' t = C.at a w t)
    (hx:∀ d,dst = some d -> RepE C.M w' P' (C.at (a.put dst v) w') (updT fr dst us T Tn) x v (Tn d))
    (hu:∀ p ∈ us,p.2 = app fr us p.1 -> RepE C.M w' P' (C.at (a.put dst v) w') (updT fr dst us T Tn) p.2 (C.at a w' p.1) (Tn p.1))
    (hnd:∀ t,(Tn t).Nodup) (hap:∀ t u,t ≠ u -> ∀ b ∈ Tn t,b ∉ Tn u)
    (hsub:∀ t,∀ b ∈ Tn t,b ∈ (wdom us).flatMap T \/ (w.heap.size <= b /\ b < w'.heap.size)) :
    Sim C (updF fr dst x us) (a.put dst v) w' P' (updT fr dst us T Tn):=by
  have hat0:∀ t,some t ≠ dst -> Act.at (a.put dst v) t = Act.at a t:=fun t ht => by
    cases dst with
    | none => rfl
    | some d => rw [Act.at_put (by rw [h.size]; exact (hd d rfl).1.1),if_neg (fun e => ht (by rw [e]))]
  have hat1:∀ t,some t ≠ dst -> C.at (a.put dst v) w' t = C.at a w' t:=fun t ht => by
    unfold Cx.at; rw [hat0 t ht]
  have hat:∀ t,some t ≠ dst -> t ∉ wdom us -> C.at (a.put dst v) w' t = C.at a w t:=fun t ht hn => (hat1 t ht).trans (hgw t hn)
  have hfrn:∀ t,some t ≠ dst -> t ∉ wdom us -> (updF fr dst x us t = fr t /\ ∀ i,(fr t).1.on i = true -> some i ≠ dst) \/ (updF fr dst x us t = Ex.non /\ ∃ d,dst = some d /\ (fr t).1.on d = true):=fun t ht hnu => by
    cases dst with
    | none => exact .inl ⟨app_not hnu,fun i _ e => by cases e⟩
    | some d =>
      have htd:t ≠ d:=fun e => ht (by rw [e])
      simp only [updF,put,if_neg htd,app_not hnu]
      by_cases hon:(fr t).1.on d = true
      · rw [if_pos hon]; exact .inr ⟨rfl,d,rfl,hon⟩
      · rw [if_neg hon]
        exact .inl ⟨rfl,fun i hi e => hon (by cases e; exact hi)⟩
  have hrn:∀ t,∀ d,(fr t).1.on d = true -> T t = []:=fun t d hon => by
    have hr:=h.rep t
    generalize fr t = y at hr hon
    obtain ⟨e,f⟩:=y
    cases e <;> first | exact hr.1 | (simp [Ent.on] at hon; done)
  have hTn:∀ t,some t ≠ dst -> t ∉ wdom us -> updT fr dst us T Tn t = T t:=fun t h1 h2 => by unfold updT; rw [if_neg (by simp [h1,h2])]
  have hTy:∀ t,(some t = dst \/ t ∈ wdom us) -> updT fr dst us T Tn t = Tn t:=fun t h => by unfold updT; rw [if_pos h]
  have husn:∀ t ∈ wdom us,t ∈ slots C.n:=fun t ht => by
    obtain ⟨p,hp,rfl⟩:=List.mem_map.1 ht
    exact (hus p hp).1
  refine h.stepG (dst.toList ++ wdom us) (by rw [Act.size_put,h.size]) (by rw [Act.defers_put,h.defers]) (fun t ht => ?_) (fun t ht => ?_) hp hw (fun S hS => hk S fun b hb => ⟨(hS b hb).1,fun hm => (hS b hb).2.1 (by simp only [List.flatMap_append,List.mem_append]; exact .inr hm),(hS b hb).2.2⟩) hg
    (fun t hm => ?_) (fun t hm => ?_) (fun t hm => ?_) (fun t hm => ?_) (fun t u ht hu' htu => ?_) (fun t ht b hb => ?_) (fun t v' hv' => ?_)
  · have h1:some t ≠ dst:=fun e => ht (slots_n (hd t e.symm).1.1)
    have h2:t ∉ wdom us:=fun e => ht (husn t e)
    rcases hfrn t h1 h2 with ⟨e,_⟩ | ⟨e,_⟩
    · rw [e,h.dom t ht]
    · exact e
  · have h1:some t ≠ dst:=fun e => ht (slots_n (hd t e.symm).1.1)
    have h2:t ∉ wdom us:=fun e => ht (husn t e)
    rw [hTn t h1 h2,h.tdom t ht]
  · exact hat t (fun e => hm (by rw [<- e]; simp)) (fun e => hm (by simp [e]))
  · have h1:some t ≠ dst:=fun e => hm (by rw [<- e]; simp)
    have h2:t ∉ wdom us:=fun e => hm (by simp [e])
    rcases hfrn t h1 h2 with ⟨e,hon⟩ | ⟨e,d,hdd,hon⟩
    · refine .inl ⟨e,hTn t h1 h2,fun i hi => ?_,fun i hi => ?_⟩
      · rw [hat1 i (hon i hi)]
        by_cases hiu:i ∈ wdom us
        · by_cases hiG:i < gB
          · rw [Cx.at_n hiG,Cx.at_n hiG]
          · have hiT:(fr t).1.onT i = true \/ i = gK:=by
              have hig:isG i = true:=isG_iff.2 (by omega)
              generalize (fr t).1 = e at hi
              cases e <;> simp only [Ent.on,beq_iff_eq,Bool.false_eq_true] at hi <;> first | (subst hi; left; simp [Ent.onT,hig]; done) | exact .inr hi.symm
            rcases hiT with hiT | rfl
            · rcases hcov t i hiu hiT with h | h
              · exact absurd h h1
              · exact absurd h h2
            · exact Cx.at_K
        · exact hgw i hiu
      have hoi:(fr t).1.on i = true:=by
        generalize (fr t).1 = e at hi
        cases e <;> simp_all [Ent.on,Ent.onT]
      have hni:some i ≠ dst:=hon i hoi
      have hnu:i ∉ wdom us:=fun hiu => by
        rcases hcov t i hiu hi with h | h
        · exact h1 h
        · exact h2 h
      refine ⟨fun hm' => ?_,hTn i hni hnu⟩
      rcases List.mem_append.1 hm' with hm' | hm'
      · cases dst with
        | none => simp at hm'
        | some d => simp at hm'; exact hni (by rw [hm'])
      · exact hnu hm'
    · refine .inr ⟨e,?_⟩
      rw [hTn t h1 h2]
      exact hrn t d hon
  · by_cases h1:some t = dst
    · cases dst with
      | none => cases h1
      | some d =>
        cases h1
        have ht:=(hd t rfl).1
        rw [hTy t (.inl rfl),Cx.at_n ht.2,Act.at_put (by rw [h.size]; exact ht.1),if_pos rfl]
        have:updF fr (some t) x us t = x:=by simp [updF,put]
        rw [this]
        exact hx t rfl
    · have h2:t ∈ wdom us:=by
        rcases List.mem_append.1 hm with hm | hm
        · cases dst with
          | none => simp at hm
          | some d => simp at hm; exact absurd (by rw [hm]) h1
        · exact hm
      rw [hTy t (.inr h2),hat1 t h1]
      have hmem:=app_mem (fr:=fr) h2
      have hown:=(hus _ hmem).2
      have:updF fr dst x us t = app fr us t:=by
        cases dst with
        | none => rfl
        | some d =>
          have htd:t ≠ d:=fun e => h1 (by rw [e])
          simp only [updF,put,if_neg htd]
          rw [Ent.own_on hown d,if_neg (by simp)]
      rw [this]
      exact hu _ hmem rfl
  · rw [hTy t (by rcases List.mem_append.1 hm with hm | hm
                  · left; cases dst with
                    | none => simp at hm
                    | some d => simp at hm; rw [hm]
                  · exact .inr hm)]
    exact hnd t
  · have e1:∀ k,k ∈ dst.toList ++ wdom us -> updT fr dst us T Tn k = Tn k:=fun k hk => hTy k (by
      rcases List.mem_append.1 hk with hm | hm
      · left; cases dst with
        | none => simp at hm
        | some d => simp at hm; rw [hm]
      · exact .inr hm)
    rw [e1 t ht,e1 u hu']
    exact hap t u htu
  · have e1:updT fr dst us T Tn t = Tn t:=hTy t (by
      rcases List.mem_append.1 ht with hm | hm
      · left; cases dst with
        | none => simp at hm
        | some d => simp at hm; rw [hm]
      · exact .inr hm)
    rw [e1] at hb
    rcases hsub t b hb with hb | hb
    · left; simp only [List.flatMap_append,List.mem_append]; exact .inr hb
    · exact .inr hb
  · refine hat0 t fun e => ?_
    have:=(hd t e.symm).2.1
    rw [hv'] at this
    cases this
theorem Sim.upd {C:Cx} {fr:Fr} {a:Act} {w:World} {P:Prot} {T:Nat -> List Nat} (h:Sim C fr a w P T) {dst:Option Nat} {x:Ex Unit} {v:Value} {us:WS} {w':World} {P':Prot} (Tn:Nat -> List Nat)
    (hd:∀ d,dst = some d -> (d < C.n /\ d < gB) /\ C.pv d = none /\ x.1.on d = false /\ d ∉ wdom us) (hus:∀ p ∈ us,p.1 ∈ slots C.n /\ p.2.1.own = true)
    (hcov:∀ k,∀ i ∈ wdom us,(fr k).1.onT i = true -> some k = dst \/ k ∈ wdom us)
    (hp:PExt C.F C.w0 C.P0 w' P') (hw:w.heap.size <= w'.heap.size)
    (hk:∀ S:List Nat,(∀ b ∈ S,b < w.heap.size /\ b ∉ (wdom us).flatMap T) -> Keeps w P w' P' S)
    (hx:∀ d,dst = some d -> RepE C.M w' P' (C.at (a.put dst v) w') (updT fr dst us T Tn) x v (Tn d))
    (hu:∀ p ∈ us,p.2 = app fr us p.1 -> RepE C.M w' P' (C.at (a.put dst v) w') (updT fr dst us T Tn) p.2 (C.at a w p.1) (Tn p.1))
    (hnd:∀ t,(Tn t).Nodup) (hap:∀ t u,t ≠ u -> ∀ b ∈ Tn t,b ∉ Tn u)
    (hsub:∀ t,∀ b ∈ Tn t,b ∈ (wdom us).flatMap T \/ (w.heap.size <= b /\ b < w'.heap.size)) :
    Sim C (updF fr dst x us) (a.put dst v) w' P' (updT fr dst us T Tn):=by
  have hgs:=h.gsame (D:=(wdom us).flatMap T) (fun b hb => by obtain ⟨u,_,hu⟩:=List.mem_flatMap.1 hb; exact ⟨u,hu⟩) hk
  have hgw:∀ t,C.at a w' t = C.at a w t:=Cx.at_same fun b hb => (hgs b hb).1
  exact h.updG Tn hd hus hcov hp hw (fun S hS => hk S fun b hb => ⟨(hS b hb).1,(hS b hb).2.1⟩) (fun b hb => (hgs b hb).2) (fun t _ => hgw t) hx (fun p hp e => by rw [hgw]; exact hu p hp e) hnd hap hsub
end Go.Abs
