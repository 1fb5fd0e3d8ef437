/-
  Plain law: for all data within the bounds of the machine the law FnExactApplyDelay returns true.
-/
import Derived.Test.Ytjgmjljdhgfdhaaa3LDelayB
import Derived.Test.Ytjgmjljdhgfdhaaa3LCopy
import Derived.Test.Ytjgmjljdhgfdhaaa3LSample
import Derived.Test.Ytjgmjljdhgfdhaaa3V
namespace Go.Proofs.Ytjgmjljdhgfdhaa
open Go.Abs
set_option linter.unusedVariables false
set_option linter.unusedSimpArgs false

theorem placeA {α : Type} {l : List α} (hl : l.length ≤ 1099511627776) {a : Int} (h : inB a 0 (subZ .i64 (lenI l) 1) = true) : ∃ i : Nat, a = (i : Int) ∧ i < l.length := by
  obtain ⟨h1, h2⟩ := inB_iff.1 h
  rw [lenI_eq, subZ64 (by omega) (by omega)] at h2
  exact ⟨a.toNat, by omega, by omega⟩
theorem stpI_of {l : List D_Step} (h : stepsB l = true) : StpI l ∧ l.length ≤ 8 := by
  unfold stepsB at h
  simp only [Bool.and_eq_true] at h
  obtain ⟨⟨h1, h2⟩, h3⟩ := h
  obtain ⟨k1, k2⟩ := inB_iff.1 h3
  have at_ : ∀ i (hi : i < l.length), stepI l i = true := fun i hi => List.all_eq_true.1 h1 i (by simpa using hi)
  have adj : ∀ j (hj : j + 1 < l.length), l[j].1 < l[j + 1].1 := fun j hj => by
    have := at_ (j + 1) hj
    unfold stepI at this
    rw [List.getElem?_eq_getElem hj] at this
    simp only [List.getElem?_eq_getElem (show j < l.length by omega), Bool.and_eq_true] at this
    have := this.2
    simp only [notB_not, Bool.not_eq_true', Bool.eq_false_iff, Ne, leZ_iff] at this
    omega
  refine ⟨⟨List.pairwise_iff_getElem.2 fun i j hi hj hij => ?_, ?_, fun s hs => ?_⟩, by omega⟩
  · induction j with
    | zero => omega
    | succ k ih =>
      by_cases e : i = k
      · subst e; exact adj i hj
      · exact Int.lt_trans (ih (by omega) (by omega)) (adj k hj)
  · have hlt : 0 < l.length := by omega
    unfold firstB at h2
    rw [List.getElem?_eq_getElem hlt] at h2
    exact ⟨l[0], List.getElem_mem hlt, eqZ_iff.1 h2⟩
  · obtain ⟨i, hi, rfl⟩ := List.mem_iff_getElem.1 hs
    have := at_ i hi
    unfold stepI at this
    rw [List.getElem?_eq_getElem hi] at this
    simp only [Bool.and_eq_true] at this
    exact inB_iff.1 this.1.1
/-- an activity's first modes made longer -/
def durM (n : Int) (m : D_Mode) : D_Mode := (if 12 < IntKind.i64.wrap (m.1 + n) then 12 else IntKind.i64.wrap (m.1 + n), m.2)
def modI (n : Int) (i : Nat) (ml : List D_Mode) : List D_Mode := (ml.take i).map (durM n) ++ ml.drop i
theorem modI_len (n : Int) (i : Nat) (ml : List D_Mode) : (modI n i ml).length = ml.length := by
  unfold modI
  simp
  omega
theorem modI_at (n : Int) {i : Nat} {ml : List D_Mode} (h : i < ml.length) : (modI n i ml)[i]'(by rw [modI_len]; exact h) = ml[i] := by
  unfold modI
  rw [List.getElem_append_right (by simp; omega)]
  simp [Nat.min_eq_left (Nat.le_of_lt h)]
theorem modify_mid {α : Type} (f : α → α) (x : α) (B : List α) : ∀ (A : List α), (A ++ x :: B).modify A.length f = A ++ f x :: B
  | [] => by simp
  | a :: A => by
    rw [List.cons_append, List.length_cons, List.modify_succ_cons, modify_mid f x B A]
    rfl
theorem modI_succ (n : Int) {i : Nat} {ml : List D_Mode} (h : i < ml.length) : setI (modI n i ml) (i : Int) (fun _ => durM n ml[i]) = modI n (i + 1) ml := by
  unfold setI modI
  rw [show ((i : Int)).toNat = i by omega]
  have e : ml.drop i = ml[i] :: ml.drop (i + 1) := List.drop_eq_getElem_cons h
  have hl : i = ((ml.take i).map (durM n)).length := by simp; omega
  have e2 : ml.take (i + 1) = ml.take i ++ [ml[i]] := (List.take_append_getElem h).symm
  rw [e, e2]
  conv => lhs; arg 2; rw [hl]
  rw [modify_mid, List.map_append]
  simp only [List.map_cons, List.map_nil, List.append_assoc, List.singleton_append]
/-- the project whose a-th activity has these modes -/
def withM (p : D_Project) (a : Nat) (z : D_Activity) (ml : List D_Mode) : D_Project := (p.1, setI p.2.1 (a : Int) (fun _ => (z.1, z.2.1, ml, z.2.2.2)), p.2.2)
theorem setI_setI {α : Type} (l : List α) (a : Nat) (x y : α) : setI (setI l (a : Int) (fun _ => x)) (a : Int) (fun _ => y) = setI l (a : Int) (fun _ => y) := by
  unfold setI
  rw [show ((a : Int)).toNat = a by omega]
  apply List.ext_getElem?
  intro j
  simp only [List.getElem?_modify]
  by_cases h : a = j
  · subst h
    cases l[a]? <;> simp
  · simp [h]
theorem getI_setI {α : Type} {l : List α} {a : Nat} (h : a < l.length) (x : α) : getI (setI l (a : Int) (fun _ => x)) (a : Int) = some x := by
  rw [getI_nat]
  unfold setI
  rw [show ((a : Int)).toNat = a by omega, List.getElem?_modify]
  simp [List.getElem?_eq_getElem h]
theorem setI_self {α : Type} {l : List α} {a : Nat} (h : a < l.length) : setI l (a : Int) (fun _ => l[a]) = l := by
  unfold setI
  rw [show ((a : Int)).toNat = a by omega]
  apply List.ext_getElem?
  intro j
  rw [List.getElem?_modify]
  by_cases e : a = j
  · subst e
    simp [List.getElem?_eq_getElem h]
  · simp [e]
theorem setI_len {α : Type} (l : List α) (a : Int) (f : α → α) : (setI l a f).length = l.length := setI_length l a f
theorem withM_zero (p : D_Project) {a : Nat} (h : a < p.2.1.length) (n : Int) : withM p a p.2.1[a] (modI n 0 p.2.1[a].2.2.1) = p := by
  unfold withM modI
  simp only [List.take_zero, List.map_nil, List.drop_zero, List.nil_append]
  have : setI p.2.1 (a : Int) (fun _ => (p.2.1[a].1, p.2.1[a].2.1, p.2.1[a].2.2.1, p.2.1[a].2.2.2)) = p.2.1 := setI_self h
  rw [this]
theorem long_impl (p : D_Project) {a : Nat} (h : a < p.2.1.length) (n : Int) : ∀ (k i : Nat), i + k = p.2.1[a].2.2.1.length → longL (a : Int) n k i (withM p a p.2.1[a] (modI n i p.2.1[a].2.2.1)) = some (withM p a p.2.1[a] (modI n p.2.1[a].2.2.1.length p.2.1[a].2.2.1))
  | 0, i, hi => by
    obtain rfl : i = p.2.1[a].2.2.1.length := by omega
    rfl
  | k + 1, i, hi => by
    have hlt : i < p.2.1[a].2.2.1.length := by omega
    have hlm : i < (modI n i p.2.1[a].2.2.1).length := by rw [modI_len]; exact hlt
    have hz := getI_setI (l := p.2.1) h (p.2.1[a].1, p.2.1[a].2.1, modI n i p.2.1[a].2.2.1, p.2.1[a].2.2.2)
    have hm : getI (modI n i p.2.1[a].2.2.1) (i : Int) = some p.2.1[a].2.2.1[i] := by rw [getI_lt hlm, modI_at n hlt]
    have hg : getDur (withM p a p.2.1[a] (modI n i p.2.1[a].2.2.1)) (a : Int) (i : Int) = some p.2.1[a].2.2.1[i].1 := by
      show ((getI (setI p.2.1 (a : Int) (fun _ => (p.2.1[a].1, p.2.1[a].2.1, modI n i p.2.1[a].2.2.1, p.2.1[a].2.2.2))) (a : Int)).bind fun z => (getI z.2.2.1 (i : Int)).bind fun m => some m.1) = _
      rw [hz]
      show ((getI (modI n i p.2.1[a].2.2.1) (i : Int)).bind fun m => some m.1) = _
      rw [hm]
      rfl
    have hs : setDur (withM p a p.2.1[a] (modI n i p.2.1[a].2.2.1)) (a : Int) (i : Int) (durM n p.2.1[a].2.2.1[i]).1 = withM p a p.2.1[a] (modI n (i + 1) p.2.1[a].2.2.1) := by
      show (p.1, setI (setI p.2.1 (a : Int) (fun _ => (p.2.1[a].1, p.2.1[a].2.1, modI n i p.2.1[a].2.2.1, p.2.1[a].2.2.2))) (a : Int) (fun z => (z.1, z.2.1, setI z.2.2.1 (i : Int) (fun m => ((durM n p.2.1[a].2.2.1[i]).1, m.2)), z.2.2.2)), p.2.2) = withM p a p.2.1[a] (modI n (i + 1) p.2.1[a].2.2.1)
      rw [setI_const hz, setI_setI]
      simp only
      rw [setI_const hm]
      have := modI_succ n hlt
      unfold withM
      rw [← this]
      rfl
    show ((getDur (withM p a p.2.1[a] (modI n i p.2.1[a].2.2.1)) (a : Int) (i : Int)).bind fun m => longL (a : Int) n k (i + 1) (setDur (withM p a p.2.1[a] (modI n i p.2.1[a].2.2.1)) (a : Int) (i : Int) (if 12 < IntKind.i64.wrap (m + n) then 12 else IntKind.i64.wrap (m + n)))) = _
    rw [hg]
    show longL (a : Int) n k (i + 1) (setDur (withM p a p.2.1[a] (modI n i p.2.1[a].2.2.1)) (a : Int) (i : Int) (durM n p.2.1[a].2.2.1[i]).1) = _
    rw [hs]
    exact long_impl p h n k (i + 1) (by omega)
theorem minA (x y : Int) (u : Unit) : spec_l02Min (x, y, u) () = some (if x < y then x else y, ()) := by
  unfold spec_l02Min
  by_cases h : x < y
  · have : ltZ x y = true := by rw [ltZ_iff]; exact h
    simp only [this, if_true, if_pos h]
  · have : ltZ x y = false := by rw [Bool.eq_false_iff, Ne, ltZ_iff]; exact h
    simp only [this, Bool.false_eq_true, if_false, if_neg h]
theorem long_spec (p z0 : D_Project) (d : D_Delay) {a : Nat} (hd : d.2.1 = (a : Int)) (h : a < p.2.1.length) (hl : p.2.1[a].2.2.1.length ≤ 1099511627776) (A : Type) :
    loopN (A := A) big spec_ApplyDelay_L0 (0, (p.2.1[a].2.2.1.length : Int), p.2.1[a].2.2.1, p, d, p, z0, ()) = some (.exit (Sum.inl (false, (p.2.1[a].2.2.1.length : Int), (p.2.1[a].2.2.1.length : Int), p.2.1[a].2.2.1, p, d, withM p a p.2.1[a] (modI d.2.2.1 p.2.1[a].2.2.1.length p.2.1[a].2.2.1), z0, ()))) := by
  have l0 := (fold_loop (A := A) (α := Unit) (F := spec_ApplyDelay_L0) (fun i _ => ((i : Int), (p.2.1[a].2.2.1.length : Int), p.2.1[a].2.2.1, p, d, withM p a p.2.1[a] (modI d.2.2.1 i p.2.1[a].2.2.1), z0, ())) p.2.1[a].2.2.1.length (fun _ _ => True) (fun _ u => u)
    (fun _ => Sum.inl (false, (p.2.1[a].2.2.1.length : Int), (p.2.1[a].2.2.1.length : Int), p.2.1[a].2.2.1, p, d, withM p a p.2.1[a] (modI d.2.2.1 p.2.1[a].2.2.1.length p.2.1[a].2.2.1), z0, ())) hl
    (fun i _ hlt _ => by
      refine ⟨?_, trivial⟩
      have hlm : i < (modI d.2.2.1 i p.2.1[a].2.2.1).length := by rw [modI_len]; exact hlt
      have hz := getI_setI (l := p.2.1) h (p.2.1[a].1, p.2.1[a].2.1, modI d.2.2.1 i p.2.1[a].2.2.1, p.2.1[a].2.2.2)
      have hm : getI (modI d.2.2.1 i p.2.1[a].2.2.1) (i : Int) = some p.2.1[a].2.2.1[i] := by rw [getI_lt hlm, modI_at d.2.2.1 hlt]
      have hw : (withM p a p.2.1[a] (modI d.2.2.1 i p.2.1[a].2.2.1)).2.1 = setI p.2.1 (a : Int) (fun _ => (p.2.1[a].1, p.2.1[a].2.1, modI d.2.2.1 i p.2.1[a].2.2.1, p.2.1[a].2.2.2)) := rfl
      have hs : (p.1, setI (setI p.2.1 (a : Int) (fun _ => (p.2.1[a].1, p.2.1[a].2.1, modI d.2.2.1 i p.2.1[a].2.2.1, p.2.1[a].2.2.2))) (a : Int) (fun z => (z.1, z.2.1, setI z.2.2.1 (i : Int) (fun m => ((durM d.2.2.1 p.2.1[a].2.2.1[i]).1, m.2)), z.2.2.2)), p.2.2) = withM p a p.2.1[a] (modI d.2.2.1 (i + 1) p.2.1[a].2.2.1) := by
        rw [setI_const hz, setI_setI]
        simp only
        rw [setI_const hm]
        have := modI_succ d.2.2.1 hlt
        unfold withM
        rw [← this]
        rfl
      unfold spec_ApplyDelay_L0
      simp only [lt_yes hlt, if_true, getI_lt hlt, some_bind', hd, hw, hz, hm, minA, idxN hlt hl (Nat.le_refl _)]
      rw [← hs]
      rfl)
    (fun _ _ => by
      unfold spec_ApplyDelay_L0
      simp only [lt_no, Bool.false_eq_true, if_false])
    (a := ()) trivial).1
  rw [withM_zero p h] at l0
  exact l0
abbrev zA : D_Project := ((0 : Int), [], [], [], [], ())
def stpP (p : D_Project) (a : Int) (l : List D_Step) : D_Project := (p.1, p.2.1, p.2.2.1, setI p.2.2.2.1 a (fun z => (l, z.2)), p.2.2.2.2)
theorem mem_setI {α : Type} {l : List α} {a : Int} {f : α → α} {y : α} (h : y ∈ setI l a f) : y ∈ l ∨ ∃ x ∈ l, y = f x := by
  unfold setI at h
  generalize a.toNat = i at h
  induction l generalizing i with
  | nil => simp at h
  | cons x l ih =>
    cases i with
    | zero =>
      rw [List.modify_zero_cons] at h
      rcases List.mem_cons.1 h with h | h
      · exact .inr ⟨x, List.mem_cons_self .., h⟩
      · exact .inl (List.mem_cons_of_mem _ h)
    | succ i =>
      rw [List.modify_succ_cons] at h
      rcases List.mem_cons.1 h with h | h
      · exact .inl (by rw [h]; exact List.mem_cons_self ..)
      · rcases ih i h with h | ⟨r, hr, h⟩
        · exact .inl (List.mem_cons_of_mem _ h)
        · exact .inr ⟨r, List.mem_cons_of_mem _ hr, h⟩
theorem Sm_withM {B : Nat} {p : D_Project} (hp : Sm_Project B p) {a : Nat} (h : a < p.2.1.length) (n : Int) (i : Nat) : Sm_Project B (withM p a p.2.1[a] (modI n i p.2.1[a].2.2.1)) := by
  obtain ⟨h1, ⟨h2, h3⟩, h4⟩ := hp
  have hz := h3 _ (List.getElem_mem h)
  refine ⟨h1, ⟨?_, fun y hy => ?_⟩, h4⟩
  · show (setI p.2.1 (a : Int) _).length ≤ B
    rw [setI_length]
    exact h2
  · rcases mem_setI hy with hy | ⟨r, -, rfl⟩
    · exact h3 y hy
    · refine ⟨hz.1, trivial, ⟨?_, fun m hm => ?_⟩, trivial⟩
      · show (modI n i p.2.1[a].2.2.1).length ≤ B
        rw [modI_len]
        exact hz.2.2.1.1
      · have hm : m ∈ modI n i p.2.1[a].2.2.1 := hm
        unfold modI at hm
        rcases List.mem_append.1 hm with hm | hm
        · obtain ⟨r, hr, rfl⟩ := List.mem_map.1 hm
          exact hz.2.2.1.2 r (List.mem_of_mem_take hr)
        · exact hz.2.2.1.2 m (List.mem_of_mem_drop hm)
theorem Sm_stp {B : Nat} {p : D_Project} (hp : Sm_Project B p) (a : Int) (l : List D_Step) (hl : l.length ≤ B) : Sm_Project B (stpP p a l) := by
  obtain ⟨h1, h2, h3, ⟨h4, h5⟩, h6⟩ := hp
  refine ⟨h1, h2, h3, ⟨?_, fun y hy => ?_⟩, h6⟩
  · show (setI p.2.2.2.1 a _).length ≤ B
    rw [setI_length]
    exact h4
  · rcases mem_setI hy with hy | ⟨r, hr, rfl⟩
    · exact h5 y hy
    · exact ⟨⟨hl, fun s _ => smI_Step _ s⟩, (h5 r hr).2⟩
theorem Sm_zeroA (B : Nat) : Sm_Project B zA := ⟨trivial, ⟨Nat.zero_le _, fun y hy => absurd hy (by simp)⟩, ⟨Nat.zero_le _, fun y hy => absurd hy (by simp)⟩, ⟨Nat.zero_le _, fun y hy => absurd hy (by simp)⟩, ⟨Nat.zero_le _, fun y hy => absurd hy (by simp)⟩, trivial⟩
theorem smpS_len (c : Int → Int) : ∀ n, (smpS c n).length ≤ n
  | 0 => Nat.le_refl _
  | n + 1 => by
    rw [smpS_succ]
    have := smpS_len c n
    exact Nat.le_trans (smp_len _ _ _) (by omega)
theorem Apply_both (p : D_Project) (d : D_Delay) (hp : Sm_Project 1048576 p) : ∃ (x : D_Project) (f : Bool), Sm_Project 1048576 x ∧ (∀ u, spec_ApplyDelay (p, d, u) () = some ((x, f, ()), ())) ∧ ∀ u, impl_ApplyDelay (p, d, u) () = some ((x, f, ()), ()) := by
  have hp' := smm_Project (B' := 1099511627776) (by omega) p hp
  have hi : ∀ u, impl_ApplyDelay (p, d, u) () = (if delayB p d = true then
      (if eqZ d.1 2 = true then (getI p.2.1 d.2.1).bind fun z => longL d.2.1 d.2.2.1 z.2.2.1.length 0 p
        else if eqZ d.1 3 = true then ((getI p.2.2.2.1 d.2.1).bind fun z => some z.1).bind fun l => (impl_reduced (l, d.2.2.2.1, d.2.2.1, ()) ()).map fun (r : List D_Step × Unit) => stpP p d.2.1 r.1
        else some p).bind fun o => (impl_ProjectOk (o, ()) ()).bind fun k => if k.1 = true then some ((o, true, ()), ()) else some ((zA, false, ()), ())
      else some ((zA, false, ()), ())) := fun u => by
    unfold impl_ApplyDelay apF
    show ((impl_DelayOk (p, d, u) ()).bind fun ok => if ok.1 = true then
      (impl_Project_copied (p, ()) ()).bind fun c => (if eqZ d.1 2 = true then (getI c.1.2.1 d.2.1).bind fun z => longL d.2.1 d.2.2.1 z.2.2.1.length 0 c.1
        else if eqZ d.1 3 = true then ((getI c.1.2.2.2.1 d.2.1).bind fun z => some z.1).bind fun l => (impl_reduced (l, d.2.2.2.1, d.2.2.1, ()) ()).map fun (r : List D_Step × Unit) => stpP c.1 d.2.1 r.1
        else some c.1).bind fun o => (impl_ProjectOk (o, ()) ()).bind fun k => if k.1 = true then some ((o, true, ()), ()) else some ((zA, false, ()), ())
      else some ((zA, false, ()), ())) = _
    rw [DelayOk_impl p d u hp', copied_eq p () hp]
    rfl
  rcases tf (delayB p d) with h | h
  · refine ⟨zA, false, Sm_zeroA _, fun u => ?_, fun u => ?_⟩
    · unfold spec_ApplyDelay
      simp only [DelayOk_spec _ _ _ hp', h, some_bind', notB_false, if_true]
    · rw [hi, if_neg (by rw [h]; exact Bool.false_ne_true)]
      rfl
  -- the project turned
  have main : ∃ x : D_Project, Sm_Project 1048576 x ∧ (∀ u, spec_ApplyDelay (p, d, u) () = some ((if projB x = true then (x, true, ()) else (zA, false, ())), ())) ∧
      (if eqZ d.1 2 = true then (getI p.2.1 d.2.1).bind fun z => longL d.2.1 d.2.2.1 z.2.2.1.length 0 p
        else if eqZ d.1 3 = true then ((getI p.2.2.2.1 d.2.1).bind fun z => some z.1).bind fun l => (impl_reduced (l, d.2.2.2.1, d.2.2.1, ()) ()).map fun (r : List D_Step × Unit) => stpP p d.2.1 r.1
        else some p) = some x := by
    have h' := h
    unfold delayB at h'
    simp only [Bool.and_eq_true] at h'
    obtain ⟨⟨hpj, hat⟩, hk⟩ := h'
    rcases tf (eqZ d.1 2) with k2 | k2
    · rcases tf (eqZ d.1 3) with k3 | k3
      · refine ⟨p, hp, fun u => ?_, ?_⟩
        · unfold spec_ApplyDelay
          simp only [DelayOk_spec _ _ _ hp', h, l05Copy_eq _ _ hp, k2, k3, some_bind', notB_true, Bool.false_eq_true, if_false, ProjectOk_spec _ _ hp']
          rcases tf (projB p) with q | q <;> simp only [q, notB_true, notB_false, Bool.false_eq_true, if_false, if_true]
        · rw [if_neg (by rw [k2]; exact Bool.false_ne_true), if_neg (by rw [k3]; exact Bool.false_ne_true)]
          rfl
      · have hk3 : inB d.2.1 0 (subZ .i64 (lenI p.2.2.2.1) 1) = true := by
          rcases tf (eqZ d.1 1) with k1 | k1
          · simp only [k1, k2, k3, Bool.false_eq_true, if_false, if_true, Bool.and_eq_true] at hk
            exact hk.1
          · rw [eqZ_iff] at k1 k3
            rw [k1] at k3
            cases k3
        obtain ⟨a, ha, hlt⟩ := placeA hp'.2.2.2.1.1 hk3
        have hr : resrB p.2.2.2.1[a] = true := by
          unfold projB at hpj
          simp only [Bool.and_eq_true] at hpj
          exact List.all_eq_true.1 hpj.1.1.2 _ (List.getElem_mem hlt)
        have hst : stepsB p.2.2.2.1[a].1 = true := by
          unfold resrB at hr
          simp only [Bool.and_eq_true] at hr
          exact hr.2.1
        obtain ⟨hS, hlen⟩ := stpI_of hst
        obtain ⟨L, hL1, hL2, hL3⟩ : ∃ L : List D_Step, L.length ≤ 61 ∧ lowS (newS p.2.2.2.1[a].1 d.2.2.2.1 d.2.2.1) = L ∧ ∀ u, impl_reduced (p.2.2.2.1[a].1, d.2.2.2.1, d.2.2.1, u) () = some (L, ()) :=
          ⟨_, smpS_len _ 61, (sample_new hS d.2.2.1 (inB_iff.1 hat)).symm, fun u => Reduced_A _ _ _ u (by omega)⟩
        have hsx := Sm_stp hp (a : Int) L (by omega)
        have hsx' := smm_Project (B' := 1099511627776) (by omega) _ hsx
        refine ⟨stpP p (a : Int) L, hsx, fun u => ?_, ?_⟩
        · have hw : (p.1, p.2.1, p.2.2.1, setI p.2.2.2.1 (a : Int) (fun v41 => (L, v41.2)), p.2.2.2.2) = stpP p (a : Int) L := rfl
          unfold spec_ApplyDelay
          simp only [DelayOk_spec _ _ _ hp', h, l05Copy_eq _ _ hp, k2, k3, ha, some_bind', notB_true, Bool.false_eq_true, if_false, if_true, getI_lt hlt, Less_A _ _ _ _ (show p.2.2.2.1[a].1.length ≤ 100 by omega), hL2, hw, ProjectOk_spec _ _ hsx']
          rcases tf (projB (stpP p (a : Int) L)) with q | q <;> simp only [q, notB_true, notB_false, Bool.false_eq_true, if_false, if_true]
        · rw [if_neg (by rw [k2]; exact Bool.false_ne_true), if_pos k3, ha, getI_lt hlt]
          show (impl_reduced (p.2.2.2.1[a].1, d.2.2.2.1, d.2.2.1, ()) ()).map _ = _
          rw [hL3]
          rfl
    · have hk2 : inB d.2.1 0 (subZ .i64 (lenI p.2.1) 1) = true := by
        rcases tf (eqZ d.1 1) with k1 | k1
        · simp only [k1, k2, Bool.false_eq_true, if_false, if_true, Bool.and_eq_true] at hk
          exact hk.1
        · rw [eqZ_iff] at k1 k2
          rw [k1] at k2
          cases k2
      obtain ⟨a, ha, hlt⟩ := placeA hp'.2.1.1 hk2
      have hml : p.2.1[a].2.2.1.length ≤ 1099511627776 := (hp'.2.1.2 _ (List.getElem_mem hlt)).2.2.1.1
      have hsx := Sm_withM hp hlt d.2.2.1 p.2.1[a].2.2.1.length
      have hsx' := smm_Project (B' := 1099511627776) (by omega) _ hsx
      have k3 : eqZ d.1 3 = false := by
        rw [eqZ_iff] at k2
        rw [k2]
        rfl
      refine ⟨withM p a p.2.1[a] (modI d.2.2.1 p.2.1[a].2.2.1.length p.2.1[a].2.2.1), hsx, fun u => ?_, ?_⟩
      · have l0 := fun A : Type => long_spec p zA d ha hlt hml A
        unfold spec_ApplyDelay
        simp only [DelayOk_spec _ _ _ hp', h, l05Copy_eq _ _ hp, k2, k3, ha, some_bind', notB_true, Bool.false_eq_true, if_false, if_true, getI_lt hlt, lenI_eq]
        simp only [l0, some_bind', k3, Bool.false_eq_true, if_false, ProjectOk_spec _ _ hsx']
        rcases tf (projB (withM p a p.2.1[a] (modI d.2.2.1 p.2.1[a].2.2.1.length p.2.1[a].2.2.1))) with q | q <;> simp only [q, notB_true, notB_false, Bool.false_eq_true, if_false, if_true]
      · have hx := long_impl p hlt d.2.2.1 p.2.1[a].2.2.1.length 0 (by omega)
        rw [withM_zero p hlt] at hx
        rw [if_pos k2, ha, getI_lt hlt]
        exact hx
  obtain ⟨x, hx, hs, hm⟩ := main
  have hx' := smm_Project (B' := 1099511627776) (by omega) x hx
  have hi2 : ∀ u, impl_ApplyDelay (p, d, u) () = some ((if projB x = true then (x, true, ()) else (zA, false, ())), ()) := fun u => by
    rw [hi, if_pos h, hm]
    show ((impl_ProjectOk (x, ()) ()).bind fun k => if k.1 = true then some ((x, true, ()), ()) else some ((zA, false, ()), ())) = some ((if projB x = true then (x, true, ()) else (zA, false, ())), ())
    rw [ProjectOk_impl x () hx']
    show (if projB x = true then some ((x, true, ()), ()) else some ((zA, false, ()), ())) = _
    split <;> rfl
  rcases tf (projB x) with q | q
  · refine ⟨zA, false, Sm_zeroA _, fun u => ?_, fun u => ?_⟩
    · rw [hs, if_neg (by rw [q]; exact Bool.false_ne_true)]
    · rw [hi2, if_neg (by rw [q]; exact Bool.false_ne_true)]
  · refine ⟨x, true, hx, fun u => ?_, fun u => ?_⟩
    · rw [hs, if_pos q]
    · rw [hi2, if_pos q]
theorem plain_FnExactApplyDelay (p : D_Project) (d : D_Delay) (u : Unit) (hp : Sm_Project maxLen p) : laws_FnExactApplyDelay (p, d, u) () = some (true, ()) := by
  unfold laws_FnExactApplyDelay
  obtain ⟨r1, e1, c1⟩ := sz_Project p 1048576 () (by omega) (by omega) hp
  simp only [e1, some_bind']
  rcases c1 with c1 | ⟨c1, d1, sp⟩
  · simp only [neg_yes c1, if_true]
  have sp' := smm_Project (B' := 1099511627776) (by omega) p sp
  obtain ⟨x, f, sx, es, ei⟩ := Apply_both p d sp
  have sx' := smm_Project (B' := 1099511627776) (by omega) x sx
  have n1 := nb_Project p sp
  have n2 := nb_Project x sx
  obtain ⟨p', mk⟩ := mk_Project p 1 sp' (by omega) (by omega)
  obtain ⟨x', mx, qx⟩ := mh_Project x 1 sx' (by omega) (by omega)
  have hk : (0 : Int) ≤ 1 + ((n_Project p : Nat) : Int) := by omega
  have hm : (0 : Int) ≤ 1 + ((n_Project x : Nat) : Int) := by omega
  simp only [neg_no c1, Bool.false_eq_true, if_false, to_Project _ _ sp, to_Delay, some_bind', es, ei, eq_Project _ _ sx', eq_Project _ _ sp', eqB_self, eqZ_self, notB_true, mk, mx, qx, neg_no hk, neg_no hm]
theorem L_FnExactApplyDelay (x : Ty.dens H_laws_FnExactApplyDelay.ps) (h : Ty.fits H_laws_FnExactApplyDelay.ps x) : laws_FnExactApplyDelay x () = some (true, ()) := by
  obtain ⟨p, d, u⟩ := x
  exact plain_FnExactApplyDelay p d u (smf_Project _ h.1)
end Go.Proofs.Ytjgmjljdhgfdhaa
