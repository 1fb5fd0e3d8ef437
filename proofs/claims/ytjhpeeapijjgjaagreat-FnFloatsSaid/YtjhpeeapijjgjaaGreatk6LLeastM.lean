/-
  Plain laws: numbers in a row, lists that hold a number, sets, domains (several small texts in one). Condition: no list is longer than 2 to the 40.
-/
import Derived.Test.YtjhpeeapijjgjaaGreatk6LProjM
import Derived.Test.YtjhpeeapijjgjaaGreatk6LSetM
namespace Go.Proofs.YtjhpeeapijjgjaaGreat
open Go.Abs
set_option linter.unusedVariables false
set_option linter.unusedSimpArgs false

theorem proj_actsP {p : D_Project} (h : projB p = true) : 1 ≤ p.2.1.length ∧ p.2.1.length ≤ 6 := by
  unfold projB at h
  simp only [Bool.and_eq_true] at h
  have := inB_iff.1 h.1.1.1.1.1.1.1.2
  rw [lenI_eq] at this
  omega
theorem inB_atP {α : Type} {l : List α} (hl : l.length ≤ 1099511627776) {j : Nat} (hj : j < l.length) : inB (j : Int) 0 (subZ .i64 (lenI l) 1) = true := by
  rw [lenI_sub _ hl, inB_iff]; omega
theorem setup_atP {p : D_Project} (h : projB p = true) {j b c : Nat} (hj : j < p.2.2.2.1.length) (h0 : 0 < p.2.2.2.1[j].2.1.length) (hb : b < p.2.1.length) (hc : c < p.2.1.length) :
    ∃ row n, getI p.2.2.2.1[j].2.1 p.2.1[b].2.1 = some row ∧ getI row p.2.1[c].2.1 = some n ∧ 0 ≤ n ∧ n ≤ 12 := by
  unfold projB at h
  simp only [Bool.and_eq_true] at h
  obtain ⟨⟨⟨⟨-, ha⟩, hr⟩, -⟩, -⟩ := h
  have fam : ∀ {i : Nat} (hi : i < p.2.1.length), 0 ≤ p.2.1[i].2.1 ∧ p.2.1[i].2.1 ≤ 3 := fun {i} hi => by
    have := List.all_eq_true.1 ha i (by simpa using hi)
    unfold actI at this
    rw [List.getElem?_eq_getElem hi] at this
    simp only [Bool.and_eq_true] at this
    have h2 := this.1
    unfold actB at h2
    simp only [Bool.and_eq_true] at h2
    exact inB_iff.1 h2.2.1.2
  have h1 := List.all_eq_true.1 hr _ (List.getElem_mem hj)
  unfold resrB at h1
  simp only [Bool.and_eq_true, Bool.or_eq_true, eqZ_dec, decide_eq_true_eq] at h1
  have h4 : p.2.2.2.1[j].2.1.length = 4 := by
    rcases h1.2.2 with h | h <;> omega
  obtain ⟨f1, f2⟩ := fam hb
  obtain ⟨f3, f4⟩ := fam hc
  have e1 : p.2.1[b].2.1 = ((p.2.1[b].2.1.toNat : Nat) : Int) := by omega
  have e2 : p.2.1[c].2.1 = ((p.2.1[c].2.1.toNat : Nat) : Int) := by omega
  have l1 : p.2.1[b].2.1.toNat < p.2.2.2.1[j].2.1.length := by omega
  have hrow := List.all_eq_true.1 h1.1 _ (List.getElem_mem l1)
  unfold rowB at hrow
  simp only [Bool.and_eq_true, eqZ_dec, decide_eq_true_eq] at hrow
  have l2 : p.2.1[c].2.1.toNat < p.2.2.2.1[j].2.1[p.2.1[b].2.1.toNat].length := by omega
  have hn := inB_iff.1 (List.all_eq_true.1 hrow.2 _ (List.getElem_mem l2))
  exact ⟨p.2.2.2.1[j].2.1[p.2.1[b].2.1.toNat], p.2.2.2.1[j].2.1[p.2.1[b].2.1.toNat][p.2.1[c].2.1.toNat], (congrArg (getI _) e1).trans (getI_lt l1), (congrArg (getI _) e2).trans (getI_lt l2), hn.1, hn.2⟩
/-- what a link leaves -/
theorem link_atP {p : D_Project} (hp : Sm_Project 1099511627776 p) (h : projB p = true) {k : Nat} (hk : k < p.2.2.1.length) : ∃ f t : Nat, p.2.2.1[k].1 = (f : Int) ∧ p.2.2.1[k].2.1 = (t : Int) ∧ f < p.2.1.length ∧ t < p.2.1.length ∧ f ≠ t ∧ -60 ≤ p.2.2.1[k].2.2.2.1 ∧ p.2.2.1[k].2.2.2.1 ≤ 60 := by
  unfold projB at h
  simp only [Bool.and_eq_true] at h
  have h1 := List.all_eq_true.1 h.2 _ (List.getElem_mem hk)
  unfold linkB at h1
  simp only [Bool.and_eq_true] at h1
  obtain ⟨f, e1, f1⟩ := inB_place hp.2.1.1 h1.1.1.1
  obtain ⟨t, e2, t1⟩ := inB_place hp.2.1.1 h1.1.1.2
  have h3 := h1.1.2
  rw [notB_not, eqZ_dec, e1, e2] at h3
  have h4 := inB_iff.1 h1.2
  refine ⟨f, t, e1, e2, f1, t1, fun e => ?_, h4.1, h4.2⟩
  subst e
  simp at h3
theorem hasResource_eqP (p : D_Project) (a : Int) (u : Unit) : impl_Project_hasResource (p, a, u) () = some (inB a 0 (subZ .i64 (lenI p.2.2.2.1) 1), ()) := by
  unfold impl_Project_hasResource
  simp only [within_eq, some_bind']
theorem IsMachine_impl_eqP : impl_IsMachine = spec_IsMachine := by
  funext x u
  obtain ⟨p, a, w⟩ := x
  unfold impl_IsMachine spec_IsMachine
  simp only [hasResource_eqP, l01In_eq]
/-- is the resource a machine? -/
def machBP (p : D_Project) (a : Int) : Bool := if inB a 0 (subZ .i64 (lenI p.2.2.2.1) 1) = true then (match getI p.2.2.2.1 a with | some r => ltZ 0 (lenI r.2.1) | none => false) else false
theorem IsMachine_specP (p : D_Project) (a : Int) (u : Unit) (hp : Sm_Project 1099511627776 p) : spec_IsMachine (p, a, u) () = some (machBP p a, ()) := by
  unfold spec_IsMachine machBP
  simp only [l01In_eq, some_bind']
  rcases tf (inB a 0 (subZ .i64 (lenI p.2.2.2.1) 1)) with h | h
  · simp [h]
  · obtain ⟨j, rfl, hj⟩ := inB_place hp.2.2.2.1.1 h
    simp [h, getI_lt hj]
theorem machB_atP {p : D_Project} (hp : Sm_Project 1099511627776 p) {j : Nat} (hj : j < p.2.2.2.1.length) : machBP p (j : Int) = ltZ 0 (lenI p.2.2.2.1[j].2.1) := by
  have h : inB (j : Int) 0 (subZ .i64 (lenI p.2.2.2.1) 1) = true := by
    rw [lenI_sub _ hp.2.2.2.1.1, inB_iff]; omega
  unfold machBP
  rw [if_pos h, getI_lt hj]
theorem proj_sizesP {p : D_Project} (h : projB p = true) : p.2.2.2.1.length ≤ 3 ∧ p.2.2.2.2.1.length ≤ 2 ∧ p.2.2.1.length ≤ 12 := by
  unfold projB at h
  simp only [Bool.and_eq_true] at h
  obtain ⟨⟨⟨⟨⟨⟨⟨⟨-, -⟩, h1⟩, h2⟩, h3⟩, -⟩, -⟩, -⟩, -⟩ := h
  rw [notB_not, Bool.not_eq_true', Bool.eq_false_iff, Ne, ltZ_iff, lenI_eq] at h1 h2 h3
  omega
theorem SetupTime_impl_atP {p : D_Project} (hp : Sm_Project 1099511627776 p) (h : projB p = true) {j b c : Nat} {row : List Int} {n : Int} (u : Unit) (hj : j < p.2.2.2.1.length) (h0 : 0 < p.2.2.2.1[j].2.1.length) (hb : b < p.2.1.length) (hc : c < p.2.1.length)
    (h1 : getI p.2.2.2.1[j].2.1 p.2.1[b].2.1 = some row) (h2 : getI row p.2.1[c].2.1 = some n) : impl_SetupTime (p, (j : Int), (b : Int), (c : Int), u) () = some (n, ()) := by
  have hM : machBP p (j : Int) = true := by
    rw [machB_atP hp hj, ltZ_iff, lenI_eq]; omega
  unfold impl_SetupTime
  simp only [IsMachine_impl_eqP, IsMachine_specP _ _ _ hp, hM, notB_true, Bool.false_eq_true, if_false, ProjectOk_impl _ _ hp, h, hasActivity_eq, inB_atP hp.2.1.1 hb, inB_atP hp.2.1.1 hc, some_bind', getI_lt hj, getI_lt hb, getI_lt hc, h1, h2]
open Go.Abs
set_option linter.unusedVariables false
set_option linter.unusedSimpArgs false

/-- the best so far, if there is one -/
def durStep (c : Int → Int → Bool) (s : Bool × Int) (m : D_Mode) : Bool × Int := if (notB s.1 || c m.1 s.2) = true then (true, m.1) else s
def choF (a : D_Activity) (ms : List Int) (i : Nat) (out : List D_Mode) : List D_Mode := match a.2.2.1[i]? with | some m => if hasB ms (i : Int) = true then out ++ [m] else out | none => out
/-- the modes that are left -/
def choL (a : D_Activity) (ms : List Int) : List D_Mode := foldN (choF a ms) a.2.2.1.length 0 []
def durV (c : Int → Int → Bool) (a : D_Activity) (ms : List Int) : Int := ((choL a ms).foldl (durStep c) (false, 0)).2
def durF (c : Int → Int → Bool) (a : D_Activity) (ms : List Int) (i : Nat) (s : Bool × Int) : Bool × Int := match a.2.2.1[i]? with | some m => if hasB ms (i : Int) = true then durStep c s m else s | none => s
theorem dur_fold (c : Int → Int → Bool) (a : D_Activity) (ms : List Int) (s0 : Bool × Int) : ∀ (k i : Nat) (out : List D_Mode), foldN (durF c a ms) k i (out.foldl (durStep c) s0) = (foldN (choF a ms) k i out).foldl (durStep c) s0
  | 0, _, _ => rfl
  | k + 1, i, out => by
    simp only [foldN]
    rw [← dur_fold c a ms s0 k (i + 1)]
    congr 1
    unfold durF choF
    cases a.2.2.1[i]? with
    | none => rfl
    | some m =>
      simp only
      split
      · rw [List.foldl_append]; rfl
      · rfl
theorem MinDuration_spec (a : D_Activity) (ms : List Int) (u : Unit) (ha : a.2.2.1.length ≤ 1000000) (hm : ms.length ≤ 1099511627776) : spec_MinDuration (a, ms, u) () = some (durV (fun x n => ltZ x n) a ms, ()) := by
  have l0 := fun A : Type => (fold_loop (A := A) (F := spec_MinDuration_L0) (fun i (s : Bool × Int) => ((i : Int), (a.2.2.1.length : Int), a.2.2.1, ms, s.1, s.2, ())) a.2.2.1.length (fun _ _ => True) (durF (fun x n => ltZ x n) a ms) (fun s => Sum.inl (false, (a.2.2.1.length : Int), (a.2.2.1.length : Int), a.2.2.1, ms, s.1, s.2, ())) (by omega)
    (fun i s hi _ => by
      refine ⟨?_, trivial⟩
      obtain ⟨f, n⟩ := s
      unfold spec_MinDuration_L0 durF durStep
      rw [List.getElem?_eq_getElem hi]
      simp only [lt_yes hi, if_true, getI_lt hi, some_bind', SetHas_spec _ _ _ hm]
      rcases tf (hasB ms (i : Int)) with h | h <;> rcases tf (notB f) with h1 | h1 <;> rcases tf (ltZ a.2.2.1[i].1 n) with h2 | h2 <;> simp [-Int.natCast_add, h, h1, h2, idxN hi (show a.2.2.1.length ≤ 1099511627776 by omega) (Nat.le_refl _)])
    (fun s _ => by
      unfold spec_MinDuration_L0
      simp only [lt_no, Bool.false_eq_true, if_false])
    (a := (false, 0)) trivial).1
  have e0 : (((0 : Nat) : Int), (a.2.2.1.length : Int), a.2.2.1, ms, false, (0 : Int), ()) = ((0 : Int), (a.2.2.1.length : Int), a.2.2.1, ms, false, (0 : Int), ()) := rfl
  simp only [e0] at l0
  have e1 := dur_fold (fun x n => ltZ x n) a ms (false, 0) a.2.2.1.length 0 []
  simp only [List.foldl_nil] at e1
  unfold spec_MinDuration durV choL
  simp only [lenI_eq, l0, some_bind', e1]
open Go.Abs
set_option linter.unusedVariables false
set_option linter.unusedSimpArgs false

def lstStep (val : D_Mode → Int) (s : Bool × Int) (m : D_Mode) : Bool × Int := if (notB s.1 || ltZ (val m) s.2) = true then (true, val m) else s
def lstV (val : D_Mode → Int) (a : D_Activity) (ms : List Int) : Int := ((choL a ms).foldl (lstStep val) (false, 0)).2
theorem choL_mem {a : D_Activity} {ms : List Int} : ∀ m ∈ choL a ms, m ∈ a.2.2.1 := by
  have : ∀ (k i : Nat) (out : List D_Mode), (∀ m ∈ out, m ∈ a.2.2.1) → ∀ m ∈ foldN (choF a ms) k i out, m ∈ a.2.2.1 := by
    intro k
    induction k with
    | zero => intro i out h; exact h
    | succ k ih =>
      intro i out h
      refine ih (i + 1) _ fun m hm => ?_
      unfold choF at hm
      cases hx : a.2.2.1[i]? with
      | none => rw [hx] at hm; exact h m hm
      | some x =>
        rw [hx] at hm
        simp only at hm
        split at hm
        · rcases List.mem_append.1 hm with hm | hm
          · exact h m hm
          · rw [List.mem_singleton.1 hm]; exact List.mem_of_getElem? hx
        · exact h m hm
  exact this _ 0 [] (by simp)
/-- what the modes of a valid project have -/
theorem mode_atM {p : D_Project} (h : projB p = true) {i : Nat} (hi : i < p.2.1.length) : ∀ m ∈ p.2.1[i].2.2.1, 1 ≤ m.1 ∧ m.1 ≤ 12 ∧ m.2.1.length = p.2.2.2.1.length ∧ m.2.2.1.length = p.2.2.2.2.1.length ∧ (∀ x ∈ m.2.1, 0 ≤ x ∧ x ≤ 20) ∧ ∀ x ∈ m.2.2.1, 0 ≤ x ∧ x ≤ 20 := by
  unfold projB at h
  simp only [Bool.and_eq_true] at h
  have := h.1.1.1.2
  rw [List.all_eq_true] at this
  have := this i (by simpa using hi)
  unfold actI at this
  rw [List.getElem?_eq_getElem hi] at this
  simp only [Bool.and_eq_true] at this
  have h1 := this.1
  unfold actB at h1
  simp only [Bool.and_eq_true] at h1
  intro m hm
  have h2 := List.all_eq_true.1 h1.1 m hm
  unfold modeB at h2
  simp only [Bool.and_eq_true, eqZ_dec, decide_eq_true_eq, lenI_eq] at h2
  have h3 := inB_iff.1 h2.1.1
  refine ⟨h3.1, h3.2, by have := h2.1.2.2; omega, by have := h2.2.2; omega, fun x hx => inB_iff.1 (List.all_eq_true.1 h2.1.2.1 x hx), fun x hx => inB_iff.1 (List.all_eq_true.1 h2.2.1 x hx)⟩
theorem mode_len {p : D_Project} (h : projB p = true) {i : Nat} (hi : i < p.2.1.length) : p.2.1[i].2.2.1.length ≤ 3 := by
  unfold projB at h
  simp only [Bool.and_eq_true] at h
  have := h.1.1.1.2
  rw [List.all_eq_true] at this
  have := this i (by simpa using hi)
  unfold actI at this
  rw [List.getElem?_eq_getElem hi] at this
  simp only [Bool.and_eq_true] at this
  have h1 := this.1
  unfold actB at h1
  simp only [Bool.and_eq_true] at h1
  have := inB_iff.1 h1.2.2
  omega
open Go.Abs
set_option linter.unusedVariables false
set_option linter.unusedSimpArgs false

theorem lst_min (val : D_Mode → Int) : ∀ (L : List D_Mode) (n : Int), (L.foldl (lstStep val) (true, n)).1 = true ∧ (L.foldl (lstStep val) (true, n)).2 ≤ n ∧ (∀ m ∈ L, (L.foldl (lstStep val) (true, n)).2 ≤ val m) ∧ ((L.foldl (lstStep val) (true, n)).2 = n ∨ ∃ m ∈ L, (L.foldl (lstStep val) (true, n)).2 = val m)
  | [], n => ⟨rfl, Int.le_refl _, fun m hm => absurd hm (by simp), .inl rfl⟩
  | x :: L, n => by
    rw [List.foldl_cons]
    have e : lstStep val (true, n) x = (true, if ltZ (val x) n = true then val x else n) := by
      unfold lstStep
      rcases tf (ltZ (val x) n) with h | h <;> simp [h, notB]
    rw [e]
    obtain ⟨h0, h1, h2, h3⟩ := lst_min val L (if ltZ (val x) n = true then val x else n)
    have hv : (if ltZ (val x) n = true then val x else n) ≤ n ∧ (if ltZ (val x) n = true then val x else n) ≤ val x ∧ ((if ltZ (val x) n = true then val x else n) = n ∨ (if ltZ (val x) n = true then val x else n) = val x) := by
      split
      · rename_i h; rw [ltZ_iff] at h; exact ⟨by omega, by omega, .inr rfl⟩
      · rename_i h; rw [ltZ_iff] at h; exact ⟨by omega, by omega, .inl rfl⟩
    refine ⟨h0, by omega, fun m hm => ?_, ?_⟩
    · rcases List.mem_cons.1 hm with rfl | hm
      · omega
      · exact h2 m hm
    · rcases h3 with h3 | ⟨m, hm, h3⟩
      · rcases hv.2.2 with h4 | h4
        · exact .inl (h3.trans h4)
        · exact .inr ⟨x, by simp, h3.trans h4⟩
      · exact .inr ⟨m, by simp [hm], h3⟩
theorem lst_all (val : D_Mode → Int) (L : List D_Mode) : (∀ m ∈ L, (L.foldl (lstStep val) (false, 0)).2 ≤ val m) ∧ ((L = [] ∧ (L.foldl (lstStep val) (false, 0)).2 = 0) ∨ ∃ m ∈ L, (L.foldl (lstStep val) (false, 0)).2 = val m) := by
  cases L with
  | nil => exact ⟨fun m hm => absurd hm (by simp), .inl ⟨rfl, rfl⟩⟩
  | cons x L =>
    have e : lstStep val (false, 0) x = (true, val x) := rfl
    rw [List.foldl_cons, e]
    obtain ⟨-, h1, h2, h3⟩ := lst_min val L (val x)
    refine ⟨fun m hm => ?_, .inr ?_⟩
    · rcases List.mem_cons.1 hm with rfl | hm
      · exact h1
      · exact h2 m hm
    · rcases h3 with h3 | ⟨m, hm, h3⟩
      · exact ⟨x, by simp, h3⟩
      · exact ⟨m, by simp [hm], h3⟩
theorem lstV_in (val : D_Mode → Int) {a : D_Activity} {ms : List Int} {lo hi : Int} (h0 : lo ≤ 0) (h1 : 0 ≤ hi) (h : ∀ m ∈ a.2.2.1, lo ≤ val m ∧ val m ≤ hi) : lo ≤ lstV val a ms ∧ lstV val a ms ≤ hi := by
  unfold lstV
  rcases (lst_all val (choL a ms)).2 with ⟨-, e⟩ | ⟨m, hm, e⟩
  · rw [e]; exact ⟨h0, h1⟩
  · rw [e]; exact h m (choL_mem m hm)
theorem dur_lst (a : D_Activity) (ms : List Int) : durV (fun x n => ltZ x n) a ms = lstV (fun m => m.1) a ms := rfl
end Go.Proofs.YtjhpeeapijjgjaaGreat
