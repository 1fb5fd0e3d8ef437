/-
  Plain laws: the program's search for a cycle of links whose gaps are too great, and its distances, are found, whatever they are. Condition: the project is valid; no list is longer than 2 to the 40.
-/
import Derived.Test.YteggmejnpcfalaaGreatl4LSetM
import Derived.Test.YteggmejnpcfalaaGreatl4LPlanM
import Derived.Test.YteggmejnpcfalaaGreatl4LRunM
namespace Go.Proofs.YteggmejnpcfalaaGreat
open Go.Abs
set_option linter.unusedVariables false
set_option linter.unusedSimpArgs false
theorem Contains_T (l:List Int) (n:Int) (u:Unit) (hl:l.length <= 1099511627776):∃ b,slices_Contains_int_int (l,n,u) () = some (b,()):=by
 have h:=SetHas_impl l n u hl
 unfold impl_SetHas at h
 rcases e:slices_Contains_int_int (l,n,u) () with _ | ⟨b,v⟩
 ·have e':slices_Contains_int_int (l,(n,())) () = none:=e
  simp [e'] at h
 ·cases v
  exact ⟨b,rfl⟩
theorem modes_le {p:D_Project} (h:projB p = true) {i:Nat} (hi:i < p.2.1.length):1 <= p.2.1[i].2.2.1.length /\ p.2.1[i].2.2.1.length <= 3:=by
 unfold projB at h
 simp only [Bool.and_eq_true] at h
 have:=h.1.1.1.2
 rw [List.all_eq_true] at this
 have:=this i (by simpa using hi)
 unfold actI at this
 rw [List.getElem?_eq_getElem hi] at this
 simp only [Bool.and_eq_true] at this
 have h1:=this.1
 unfold actB at h1
 simp only [Bool.and_eq_true] at h1
 have:=inB_iff.1 h1.2.2
 omega
theorem short_T {p:D_Project} (hp:Sm_Project 1099511627776 p) (h:projB p = true) {a:Nat} (ha:a < p.2.1.length) (u:Unit):∃ v,impl_Project_shortest (p,(a:Int),u) () = some (v,()):=by
 have h3:=(modes_le h ha).2
 unfold impl_Project_shortest
 simp only [getI_lt ha,some_bind',ModeIndexes_i p.2.1[a] _ (by omega),MinDuration_impl p.2.1[a] _ _ (by omega) (show (iotaI p.2.1[a].2.2.1.length).length <= 1099511627776 by simp [iotaI]; omega)]
 exact ⟨_,rfl⟩
theorem gapI_T {p:D_Project} (hp:Sm_Project 1099511627776 p) (h:projB p = true) {k:D_Link} (hk:k ∈ p.2.2.1) (u:Unit):∃ g,impl_Project_fullGap (p,k,u) () = some (g,()):=by
 obtain ⟨i,hi,rfl⟩:=List.mem_iff_getElem.1 hk
 obtain ⟨f,t,ef,et,hf,ht,-⟩:=link_at hp h hi
 have h3:=(modes_le h hf).2
 have gf:getI p.2.1 p.2.2.1[i].1 = some p.2.1[f]:=by rw [ef]; exact getI_lt hf
 unfold impl_Project_fullGap impl_Project_gap
 simp only [gf,some_bind',ModeIndexes_i p.2.1[f] _ (by omega),MinDuration_impl p.2.1[f] _ _ (by omega) (show (iotaI p.2.1[f].2.2.1.length).length <= 1099511627776 by simp [iotaI]; omega)]
 rcases tf p.2.2.1[i].2.2.1 with q | q <;> simp only [q,if_true,Bool.false_eq_true,if_false,some_bind'] <;> exact ⟨_,rfl⟩
/-- the numbers of links -/
def InK (K:Nat) (l:List Int):Prop:=∀ x ∈ l,∃ i:Nat,x = (i:Int) /\ i < K
theorem InK.get {K:Nat} {l:List Int} (h:InK K l) {i:Nat} (hi:i < l.length):∃ j:Nat,getI l (i:Int) = some (j:Int) /\ j < K:=by
 obtain ⟨j,e,hj⟩:=h _ (List.getElem_mem hi)
 exact ⟨j,by rw [getI_lt hi,e],hj⟩
abbrev cyC:List Int -> Option (List Int):=fun l => (slices_Clone_int_int (l,()) ()).map (·.1)
abbrev cyH:List Int -> Int -> Option Bool:=fun l y => (slices_Contains_int_int (l,y,()) ()).map (·.1)
abbrev cyG (p:D_Project):Lnk -> Option Int:=fun k => (impl_Project_fullGap (p,k,()) ()).map (·.1)
theorem cycL_T {p:D_Project} (hp:Sm_Project 1099511627776 p) (h:projB p = true) {rec_:List Int -> List Int -> Int -> Option (List Int)} {links vis:List Int} (hK:InK p.2.2.1.length links) (h1:links.length <= 900) (h2:vis.length <= 900) (l0 to sum:Int)
  (hrec:∀ (i:Nat) (s:Int),i < p.2.2.1.length -> ∃ o,rec_ (links ++ [(i:Int)]) (vis ++ [to]) s = some o) :
  ∀ (r:List D_Link) (i:Nat),(∀ k ∈ r,k ∈ p.2.2.1) -> i + r.length = p.2.2.1.length -> ∃ o,cycL rec_ cyC (cyG p) l0 to links vis sum r i = some o
 | [],i,_,_ => ⟨[],rfl⟩
 | k :: r,i,hm,hl => by
  obtain ⟨o1,e1⟩:=cycL_T hp h hK h1 h2 l0 to sum hrec r (i + 1) (fun k hk => hm k (List.mem_cons_of_mem _ hk)) (by simp at hl; omega)
  show ∃ o,(if l0 < (i:Int) /\ k.1 = to then _ else _) = some o
  by_cases hc:l0 < (i:Int) /\ k.1 = to
  ·rw [if_pos hc]
   obtain ⟨g,eg⟩:=gapI_T hp h (hm k (List.mem_cons_self ..)) ()
   have c1:cyC links = some links:=by show Option.map _ _ = _; rw [cloneP links _ (by omega)]; rfl
   have c2:cyC vis = some vis:=by show Option.map _ _ = _; rw [cloneP vis _ (by omega)]; rfl
   have c3:cyG p k = some g:=by show Option.map _ _ = _; rw [eg]; rfl
   obtain ⟨o2,e2⟩:=hrec i (IntKind.i64.wrap (sum + g)) (by simp at hl; omega)
   simp only [c1,c2,c3,some_bind']
   rw [if_pos (by omega),e2]
   simp only [some_bind']
   by_cases ho:o2 = []
   ·rw [if_pos ho]; exact ⟨o1,e1⟩
   ·rw [if_neg ho]; exact ⟨_,rfl⟩
  ·rw [if_neg hc]; exact ⟨o1,e1⟩
theorem cycF_T {p:D_Project} (hp:Sm_Project 1099511627776 p) (h:projB p = true) (len:Nat) (hlen:len <= 6):∀ (f:Nat) (links vis:List Int) (sum:Int),InK p.2.2.1.length links -> 0 < links.length -> links.length <= len -> vis.length <= links.length -> len < f + links.length ->
  ∃ o,cycF cyC cyH p (cyG p) f links vis sum (len:Int) = some o
 | 0,links,vis,sum,hK,h0,h1,h2,hf => by omega
 | f + 1,links,vis,sum,hK,h0,h1,h2,hf => by
  have hk12:=(proj_sizes h).2.2
  obtain ⟨i0,e0,hi0⟩:=hK.get h0
  obtain ⟨i1,e1,hi1⟩:=hK.get (show links.length - 1 < links.length by omega)
  have e1':getI links ((links.length:Int) - 1) = some (i1:Int):=by rw [show ((links.length:Int) - 1) = ((links.length - 1:Nat):Int) by omega]; exact e1
  show ∃ o,(if 1000 <= links.length \/ 1000 <= p.2.2.1.length then none else (getI links 0).bind fun l0 => (getI p.2.2.1 l0).bind fun k0 => (getI links ((links.length:Int) - 1)).bind fun l1 => (getI p.2.2.1 l1).bind fun k1 => _) = some o
  rw [if_neg (by omega),show getI links 0 = some (i0:Int) from e0]
  simp only [some_bind',e1',getI_lt hi0,getI_lt hi1]
  by_cases hl:(links.length:Int) = (len:Int)
  ·rw [if_pos hl]
   by_cases hc:p.2.2.1[i1].2.1 = p.2.2.1[i0].1 /\ 0 < sum
   ·rw [if_pos hc]
    have c1:cyC links = some links:=by show Option.map _ _ = _; rw [cloneP links _ (by omega)]; rfl
    rw [c1]
    simp only [some_bind']
    rw [if_neg (fun e => by rw [e] at h0; simp at h0)]
    exact ⟨_,rfl⟩
   ·rw [if_neg hc]; exact ⟨_,rfl⟩
  ·rw [if_neg hl]
   obtain ⟨b,eb⟩:=Contains_T vis p.2.2.1[i1].2.1 () (by omega)
   have c1:cyH vis p.2.2.1[i1].2.1 = some b:=by show Option.map _ _ = _; rw [eb]; rfl
   rw [c1]
   simp only [some_bind']
   by_cases hb:b = true
   ·rw [if_pos hb]; exact ⟨_,rfl⟩
   ·rw [if_neg hb]
    refine cycL_T hp h hK (by omega) (by omega) _ _ sum (fun i s hi => ?_) p.2.2.1 0 (fun k hk => hk) (by simp)
    refine cycF_T hp h len hlen f (links ++ [(i:Int)]) (vis ++ [p.2.2.1[i1].2.1]) s (fun x hx => ?_) (by simp) (by simp; omega) (by simp; omega) (by simp; omega)
    rcases List.mem_append.1 hx with hx | hx
    ·exact hK x hx
    ·rw [List.mem_singleton.1 hx]; exact ⟨i,rfl,hi⟩
theorem posI_T {p:D_Project} (hp:Sm_Project 1099511627776 p) (h:projB p = true) (len:Nat) (h0:1 <= len) (hlen:len <= 6):∀ (r:List D_Link) (i:Nat),(∀ k ∈ r,k ∈ p.2.2.1) -> i + r.length = p.2.2.1.length ->
  ∃ o,posI (fun a b s => cycF cyC cyH p (cyG p) ((len:Int).toNat + 1) a b s (len:Int)) (cyG p) r i = some o
 | [],i,_,_ => ⟨[],rfl⟩
 | k :: r,i,hm,hl => by
  obtain ⟨o1,e1⟩:=posI_T hp h len h0 hlen r (i + 1) (fun k hk => hm k (List.mem_cons_of_mem _ hk)) (by simp at hl; omega)
  obtain ⟨g,eg⟩:=gapI_T hp h (hm k (List.mem_cons_self ..)) ()
  have c3:cyG p k = some g:=by show Option.map _ _ = _; rw [eg]; rfl
  obtain ⟨o2,e2⟩:=cycF_T hp h len hlen ((len:Int).toNat + 1) [(i:Int)] [k.1] g (fun x hx => by rw [List.mem_singleton.1 hx]; exact ⟨i,rfl,by simp at hl; omega⟩) (by simp) (by simpa using h0) (by simp) (by simp; omega)
  show ∃ o,(cyG p k).bind _ = some o
  rw [c3]
  simp only [some_bind',e2]
  by_cases ho:o2 = []
  ·rw [if_pos ho]; exact ⟨o1,e1⟩
  ·rw [if_neg ho]; exact ⟨_,rfl⟩
theorem posO_T {p:D_Project} (hp:Sm_Project 1099511627776 p) (h:projB p = true):∀ (n len:Nat),1 <= len -> len + n <= 7 -> ∃ o,posO (fun len a b s => cycF cyC cyH p (cyG p) (len.toNat + 1) a b s len) (cyG p) p.2.2.1 n len = some o
 | 0,len,_,_ => ⟨[],rfl⟩
 | n + 1,len,h1,h2 => by
  obtain ⟨o1,e1⟩:=posO_T hp h n (len + 1) (by omega) (by omega)
  obtain ⟨o2,e2⟩:=posI_T hp h len h1 (by omega) p.2.2.1 0 (fun k hk => hk) (by simp)
  show ∃ o,(posI _ _ _ 0).bind _ = some o
  rw [e2]
  simp only [some_bind']
  by_cases ho:o2 = []
  ·rw [if_pos ho]; exact ⟨o1,e1⟩
  ·rw [if_neg ho]; exact ⟨_,rfl⟩
theorem Pos_T {p:D_Project} (hp:Sm_Project 1099511627776 p) (h:projB p = true):∃ c,∀ u,impl_PositiveCycle (p,u) () = some (c,()):=by
 have h6:=(proj_acts h).2
 have hk12:=(proj_sizes h).2.2
 obtain ⟨o,e⟩:=posO_T hp h (p.2.1.length - 1) 2 (by omega) (by omega)
 refine ⟨o,fun u => ?_⟩
 show ((impl_ProjectOk (p,()) ()).map (·.1)).bind (fun ok => if ok = true then (if 1000 <= p.2.2.1.length \/ 1000 <= p.2.1.length then none else (posO (fun len a b s => cycF cyC cyH p (cyG p) (len.toNat + 1) a b s len) (cyG p) p.2.2.1 (p.2.1.length - 1) 2).map fun r => (r,())) else some ([],())) = _
 rw [ProjectOk_impl p () hp,h]
 simp only [Option.map_some,some_bind',if_true]
 rw [if_neg (by omega),e]
 rfl
theorem dL_T {p:D_Project} (hp:Sm_Project 1099511627776 p) (h:projB p = true):∀ (r:List D_Link) (s:DSt),(∀ k ∈ r,k ∈ p.2.2.1) -> ∃ s',dL (cyG p) p.2.1.length r s = some s'
 | [],s,_ => ⟨s,rfl⟩
 | k :: r,s,hm => by
  obtain ⟨g,eg⟩:=gapI_T hp h (hm k (List.mem_cons_self ..)) ()
  have c3:cyG p k = some g:=by show Option.map _ _ = _; rw [eg]; rfl
  obtain ⟨i,hi,ek⟩:=List.mem_iff_getElem.1 (hm k (List.mem_cons_self ..))
  obtain ⟨f,t,ef,et,hf,ht,-⟩:=link_at hp h hi
  rw [ek] at ef et
  obtain ⟨s',e⟩:=dL_T hp h r (addN s k.1.toNat k.2.1.toNat g) (fun k hk => hm k (List.mem_cons_of_mem _ hk))
  refine ⟨s',?_⟩
  show (cyG p k).bind _ = some s'
  rw [c3]
  simp only [some_bind']
  rw [if_pos (by rw [ef,et]; omega)]
  exact e
theorem Dist_T {p:D_Project} (hp:Sm_Project 1099511627776 p) (h:projB p = true) {c:List Int} (hc:∀ u,impl_PositiveCycle (p,u) () = some (c,())):∃ f:Nat -> Nat -> Int,∀ u,impl_Distances (p,u) () = some (if c = [] then matL p.2.1.length f else [],()):=by
 have h6:=(proj_acts h).2
 have hk12:=(proj_sizes h).2.2
 obtain ⟨s,e⟩:=dL_T hp h p.2.2.1 Go.Proofs.d0 (fun k hk => hk)
 refine ⟨(dN p.2.1.length p.2.1.length 0 (dJ p.2.1.length p.2.1.length 0 s)).1,fun u => ?_⟩
 show ((impl_ProjectOk (p,()) ()).map (·.1)).bind (fun ok => if ok = true then ((impl_PositiveCycle (p,()) ()).map (·.1)).bind (fun c => if c = [] then (if 1000 <= p.2.2.1.length \/ 1000 <= p.2.1.length then none else
  (dL (cyG p) p.2.1.length p.2.2.1 Go.Proofs.d0).map fun s => (matL p.2.1.length (dN p.2.1.length p.2.1.length 0 (dJ p.2.1.length p.2.1.length 0 s)).1,())) else some ([],())) else some ([],())) = _
 rw [ProjectOk_impl p () hp,h,hc]
 simp only [Option.map_some,some_bind',if_true]
 by_cases hcc:c = []
 ·rw [if_pos hcc,if_pos hcc,if_neg (by omega),e]
  rfl
 ·rw [if_neg hcc,if_neg hcc]
end Go.Proofs.YteggmejnpcfalaaGreat
