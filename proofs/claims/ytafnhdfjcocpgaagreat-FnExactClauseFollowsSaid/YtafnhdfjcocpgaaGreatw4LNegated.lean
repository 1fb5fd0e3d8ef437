/-
  Plain laws: the domain of the schedules for which a clause is false, in the program and in the reference. Conditions: no list is longer than 2 to the 40, none of the project longer than 2 to the 20.
-/
import Derived.Test.YtafnhdfjcocpgaaGreatw4LMix
import Derived.Test.YtafnhdfjcocpgaaGreatw4LRestrict
namespace Go.Proofs.YtafnhdfjcocpgaaGreat
open Go.Abs
set_option linter.unusedVariables false
set_option linter.unusedSimpArgs false

def negL (x : D_Literal) : D_Literal := match spec_Negate (x, ()) () with | some r => r.1 | none => x
theorem Negate_s (x : D_Literal) (u : Unit) : spec_Negate (x, u) () = some (negL x, ()) := by
  have key : ∃ y, spec_Negate (x, u) () = some (y, ()) := by
    unfold spec_Negate
    simp only [l01In_eq, some_bind']
    rcases tf (inB x.2.2.1 (-100000) 100000) with q | q
    · exact ⟨_, by simp only [q, notB_false, if_true]; rfl⟩
    rcases tf (eqZ x.1 1) with q1 | q1
    · rcases tf (eqZ x.1 2) with q2 | q2
      · rcases tf (eqZ x.1 3) with q3 | q3
        · rcases tf (eqZ x.1 4) with q4 | q4
          · exact ⟨_, by simp only [q, q1, q2, q3, q4, notB_true, Bool.false_eq_true, if_false]; rfl⟩
          · exact ⟨_, by simp only [q, q1, q2, q3, q4, notB_true, Bool.false_eq_true, if_false, if_true]; rfl⟩
        · exact ⟨_, by simp only [q, q1, q2, q3, notB_true, Bool.false_eq_true, if_false, if_true]; rfl⟩
      · exact ⟨_, by simp only [q, q1, q2, notB_true, Bool.false_eq_true, if_false, if_true]; rfl⟩
    · exact ⟨_, by simp only [q, q1, notB_true, Bool.false_eq_true, if_false, if_true]; rfl⟩
  obtain ⟨y, e⟩ := key
  have : negL x = y := by
    unfold negL
    have e' : spec_Negate (x, ()) () = some (y, ()) := e
    rw [e']
  rw [e, this]
theorem mem_modify1 {α : Type} {f : α → α} {y : α} : ∀ {l : List α} {i : Nat}, y ∈ l.modify i f → y ∈ l ∨ ∃ x ∈ l, y = f x
  | [], i, h => by simp at h
  | a :: l, 0, h => by
    simp only [List.modify_zero_cons, List.mem_cons] at h
    rcases h with h | h
    · exact .inr ⟨a, by simp, h⟩
    · exact .inl (by simp [h])
  | a :: l, i + 1, h => by
    simp only [List.modify_succ_cons, List.mem_cons] at h
    rcases h with h | h
    · exact .inl (by simp [h])
    · rcases mem_modify1 h with h | ⟨x, h1, h2⟩
      · exact .inl (by simp [h])
      · exact .inr ⟨x, by simp [h1], h2⟩
/-- small lists, modes without an element twice -/
def DomOk (b : D_Domain) : Prop := b.1.length ≤ 6 ∧ b.2.1.length ≤ 6 ∧ b.2.2.1.length ≤ 6 ∧ ∀ m ∈ b.2.2.1, m.Nodup ∧ m.length ≤ 6
theorem DomOk.sm {b : D_Domain} (h : DomOk b) {B : Nat} (hB : 6 ≤ B) : Sm_Domain B b :=
  ⟨⟨by have := h.1; omega, fun _ _ => trivial⟩, ⟨by have := h.2.1; omega, fun _ _ => trivial⟩, ⟨by have := h.2.2.1; omega, fun m hm => ⟨by have := (h.2.2.2 m hm).2; omega, fun _ _ => trivial⟩⟩, trivial⟩
theorem DomOk.modes {b : D_Domain} (h : DomOk b) (a : Int) (q : Int → Bool) : ∀ m ∈ setI b.2.2.1 a (fun m => m.filter q), m.Nodup ∧ m.length ≤ 6 := fun m hm => by
  rcases mem_modify1 hm with hm | ⟨x, hx, rfl⟩
  · exact h.2.2.2 m hm
  · obtain ⟨h1, h2⟩ := h.2.2.2 x hx
    exact ⟨h1.filter _, Nat.le_trans (List.length_filter_le _ _) h2⟩
theorem DomOk.rest {b : D_Domain} (h : DomOk b) (l : D_Literal) : DomOk (restV b l) := by
  obtain ⟨h1, h2, h3, h4⟩ := h
  unfold restV
  split
  · split
    · exact ⟨by rw [setI_length]; exact h1, h2, h3, h4⟩
    · split
      · exact ⟨h1, by rw [setI_length]; exact h2, h3, h4⟩
      · split
        · exact ⟨h1, h2, by rw [setI_length]; exact h3, DomOk.modes ⟨h1, h2, h3, h4⟩ _ _⟩
        · split
          · exact ⟨h1, h2, by rw [setI_length]; exact h3, DomOk.modes ⟨h1, h2, h3, h4⟩ _ _⟩
          · exact ⟨h1, h2, h3, h4⟩
  · exact ⟨h1, h2, h3, h4⟩
theorem iotaI_nodup (n : Nat) : (iotaI n).Nodup := by
  unfold iotaI
  refine List.Pairwise.map _ (fun a b h e => h ?_) List.nodup_range
  exact Int.ofNat.inj e
theorem DomOk.init {p : D_Project} (h : projB p = true) : DomOk (initD p) := by
  obtain ⟨hn, hm⟩ := mode_count h
  refine ⟨by simp [initD]; omega, by simp [initD]; omega, by simp [initD]; omega, fun y hy => ?_⟩
  obtain ⟨a, ha, rfl⟩ := List.mem_map.1 hy
  obtain ⟨i, hi, rfl⟩ := List.mem_iff_getElem.1 ha
  have := hm i hi
  exact ⟨iotaI_nodup _, by rw [iotaI_length]; omega⟩
abbrev zeroD : D_Domain := ([], [], [], ())
theorem zero_ok : DomOk zeroD := ⟨by simp, by simp, by simp, by simp⟩
def cutV (b : D_Domain) (l : List D_Literal) : D_Domain := l.foldl (fun b x => restV b (negL x)) b
theorem cut_zero : ∀ (l : List D_Literal), cutV zeroD l = zeroD
  | [] => rfl
  | x :: l => by
    have h : restV zeroD (negL x) = zeroD := by
      unfold restV
      have : hasV zeroD (negL x).2.1 = false := by
        unfold hasV placeB
        simp only [lenI_eq, leZ_dec, ltZ_dec, List.length_nil, Bool.and_eq_false_iff, decide_eq_false_iff_not]
        left; left
        omega
      rw [this]
      rfl
    unfold cutV
    rw [List.foldl_cons, h]
    exact cut_zero l
theorem cut_loop_i (b : D_Domain) (l : List D_Literal) (hb : DomOk b) (hl : l.length ≤ 1099511627776) (A : Type) : loopN (A := A) big impl_NegatedDomain_L0 (0, lenI l, l, b, zeroD, ()) = some (.exit (Sum.inl (false, lenI l, lenI l, l, cutV b l, zeroD, ()))) :=
  (fold_list (A := A) (F := impl_NegatedDomain_L0) (fun i b => ((i : Int), lenI l, l, b, zeroD, ())) l (fun _ b => DomOk b) (fun b x => restV b (negL x)) (fun b => Sum.inl (false, lenI l, lenI l, l, b, zeroD, ())) hl
    (fun i b hi hb => by
      have hlt : ltZ (i : Int) (lenI l) = true := lt_yes hi
      have k := fun u => Restrict_impl b (negL l[i]) u (hb.sm (by omega))
      refine ⟨?_, hb.rest _⟩
      unfold impl_NegatedDomain_L0
      simp only [hlt, if_true, getI_lt hi, some_bind', Negate_eq, Negate_s, k, idxN hi hl (Nat.le_refl _)])
    (fun b _ => by
      have hlt : ltZ (l.length : Int) (lenI l) = false := lt_no _
      unfold impl_NegatedDomain_L0
      simp only [hlt, Bool.false_eq_true, if_false]
      rfl)
    (a := b) (s := (0, lenI l, l, b, zeroD, ())) rfl hb).1
theorem cut_loop_s (b : D_Domain) (l : List D_Literal) (hb : DomOk b) (hl : l.length ≤ 1099511627776) (A : Type) : loopN (A := A) big spec_l13Against_L0 (0, lenI l, l, b, zeroD, ()) = some (.exit (Sum.inl (false, lenI l, lenI l, l, cutV b l, zeroD, ()))) :=
  (fold_list (A := A) (F := spec_l13Against_L0) (fun i b => ((i : Int), lenI l, l, b, zeroD, ())) l (fun _ b => DomOk b) (fun b x => restV b (negL x)) (fun b => Sum.inl (false, lenI l, lenI l, l, b, zeroD, ())) hl
    (fun i b hi hb => by
      have hlt : ltZ (i : Int) (lenI l) = true := lt_yes hi
      have k := fun u => Restrict_spec b (negL l[i]) u (hb.sm (by omega)) (fun m hm => (hb.2.2.2 m hm).1)
      refine ⟨?_, hb.rest _⟩
      unfold spec_l13Against_L0
      simp only [hlt, if_true, getI_lt hi, some_bind', Negate_s, k, idxN hi hl (Nat.le_refl _)])
    (fun b _ => by
      have hlt : ltZ (l.length : Int) (lenI l) = false := lt_no _
      unfold spec_l13Against_L0
      simp only [hlt, Bool.false_eq_true, if_false]
      rfl)
    (a := b) (s := (0, lenI l, l, b, zeroD, ())) rfl hb).1
theorem cut_ok : ∀ (l : List D_Literal) {b : D_Domain}, DomOk b → DomOk (cutV b l)
  | [], b, h => h
  | x :: l, b, h => cut_ok l (h.rest (negL x))
def negD (p : D_Project) (l : List D_Literal) : D_Domain := if projB p = true then cutV (initD p) l else zeroD
theorem negD_ok (p : D_Project) (l : List D_Literal) : DomOk (negD p l) := by
  unfold negD
  rcases tf (projB p) with h | h
  · rw [h, if_neg (by simp)]; exact zero_ok
  · rw [h, if_pos rfl]; exact cut_ok l (DomOk.init h)
theorem NegatedDomain_impl (p : D_Project) (l : List D_Literal) (u : Unit) (hp : Sm_Project 1099511627776 p) (hl : l.length ≤ 1099511627776) : impl_NegatedDomain (p, l, u) () = some (negD p l, ()) := by
  have hi := fun u => InitialDomain_impl p u hp
  unfold impl_NegatedDomain negD
  unfold initV at hi
  rcases tf (projB p) with h | h
  · simp only [h, Bool.false_eq_true, if_false] at hi
    simp only [hi, some_bind', h, Bool.false_eq_true, if_false, cut_loop_i _ l zero_ok hl, cut_zero]
  · simp only [h, if_true] at hi
    simp only [hi, some_bind', h, if_true, cut_loop_i _ l (DomOk.init h) hl]
theorem NegatedDomain_spec (p : D_Project) (l : List D_Literal) (u : Unit) (hp : Sm_Project 1099511627776 p) (hl : l.length ≤ 1099511627776) : spec_NegatedDomain (p, l, u) () = some (negD p l, ()) := by
  unfold spec_NegatedDomain negD
  rcases tf (projB p) with h | h
  · simp only [ProjectOk_spec _ _ hp, h, some_bind', notB_false, if_true, Bool.false_eq_true, if_false]
  · have k := fun u => l12Of_eq p u h
    have c := fun u => dcopy_s (initD p) u ((DomOk.init h).sm (by omega))
    simp only [ProjectOk_spec _ _ hp, h, some_bind', notB_true, Bool.false_eq_true, if_false, if_true, k]
    unfold spec_l13Against
    simp only [c, some_bind', cut_loop_s _ l (DomOk.init h) hl]
end Go.Proofs.YtafnhdfjcocpgaaGreat
