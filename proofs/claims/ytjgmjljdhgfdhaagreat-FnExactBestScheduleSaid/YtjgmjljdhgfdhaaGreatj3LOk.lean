/-
  Plain laws: the rules of a project; which of them a schedule violates; which schedules are valid: in the program and in the reference. Condition: no list is longer than 2 to the 40.
-/
import Derived.Test.YtjgmjljdhgfdhaaGreatj3LRun
namespace Go.Proofs.YtjgmjljdhgfdhaaGreat
open Go.Abs
set_option linter.unusedVariables false
set_option linter.unusedSimpArgs false

theorem grow_loop {σ B C E : Type} {F : σ → Option (Out σ B C)} (emb : Nat → List E → σ) (n : Nat) (P : List E → Prop) (m c : Nat) (b : List E → B) (hn : n ≤ 1099511627776)
    (hs : ∀ i out, i < n → out.length ≤ m + i * c → P out → ∃ out', F (emb i out) = some (.norm (emb (i + 1) out')) ∧ out'.length ≤ m + (i + 1) * c ∧ P out')
    (he : ∀ out, F (emb n out) = some (.exit (b out))) {out : List E} {s : σ} (hs0 : s = emb 0 out) (h0 : out.length ≤ m) (hP : P out) :
    ∃ out', (∀ A : Type, loopN (A := A) big F s = some (.exit (b out'))) ∧ out'.length ≤ m + n * c ∧ P out' := by
  classical
  subst hs0
  let f : Nat → List E → List E := fun i out => if h : i < n ∧ out.length ≤ m + i * c ∧ P out then Classical.choose (hs i out h.1 h.2.1 h.2.2) else out
  have key := fun A : Type => fold_loop (A := A) (F := F) emb n (fun i out => out.length ≤ m + i * c ∧ P out) f b hn
    (fun i a hi hI => by
      have h : i < n ∧ a.length ≤ m + i * c ∧ P a := ⟨hi, hI⟩
      have e : f i a = Classical.choose (hs i a h.1 h.2.1 h.2.2) := dif_pos h
      rw [e]
      exact Classical.choose_spec (hs i a h.1 h.2.1 h.2.2))
    (fun a _ => he a) (a := out) ⟨by omega, hP⟩
  exact ⟨_, fun A => (key A).1, (key Unit).2⟩

/-- a rule that speaks of what the project has -/
def ruleIn (p : D_Project) (r : D_Rule) : Prop :=
  (r.1 = 1 ∧ ∃ k : Nat, r.2.1 = (k : Int) ∧ k < p.2.2.1.length) ∨
  (r.1 = 2 ∧ ∃ i : Nat, r.2.1 = (i : Int) ∧ i < p.2.1.length) ∨
  (r.1 = 3 ∧ ∃ j : Nat, r.2.1 = (j : Int) ∧ j < p.2.2.2.1.length) ∨
  (r.1 = 5 ∧ ∃ (j b c : Nat) (h : j < p.2.2.2.1.length), r.2.1 = (j : Int) ∧ r.2.2.1 = (b : Int) ∧ r.2.2.2.1 = (c : Int) ∧ b < p.2.1.length ∧ c < p.2.1.length ∧ 0 < p.2.2.2.1[j].2.1.length ∧ b < c) ∨
  (r.1 = 6 ∧ ∃ k : Nat, r.2.1 = (k : Int) ∧ k < p.2.2.2.2.1.length)
theorem hasResource_eq (p : D_Project) (a : Int) (u : Unit) : impl_Project_hasResource (p, a, u) () = some (inB a 0 (subZ .i64 (lenI p.2.2.2.1) 1), ()) := by
  unfold impl_Project_hasResource
  simp only [within_eq, some_bind']
theorem hasStock_eq (p : D_Project) (a : Int) (u : Unit) : impl_Project_hasStock (p, a, u) () = some (inB a 0 (subZ .i64 (lenI p.2.2.2.2.1) 1), ()) := by
  unfold impl_Project_hasStock
  simp only [within_eq, some_bind']
theorem IsMachine_impl_eq : impl_IsMachine = spec_IsMachine := by
  funext x u
  obtain ⟨p, a, w⟩ := x
  unfold impl_IsMachine spec_IsMachine
  simp only [hasResource_eq, l01In_eq]
/-- is the resource a machine? -/
def machB (p : D_Project) (a : Int) : Bool := if inB a 0 (subZ .i64 (lenI p.2.2.2.1) 1) = true then (match getI p.2.2.2.1 a with | some r => ltZ 0 (lenI r.2.1) | none => false) else false
theorem IsMachine_spec (p : D_Project) (a : Int) (u : Unit) (hp : Sm_Project 1099511627776 p) : spec_IsMachine (p, a, u) () = some (machB p a, ()) := by
  unfold spec_IsMachine machB
  simp only [l01In_eq, some_bind']
  rcases tf (inB a 0 (subZ .i64 (lenI p.2.2.2.1) 1)) with h | h
  · simp [h]
  · obtain ⟨j, rfl, hj⟩ := inB_place hp.2.2.2.1.1 h
    simp [h, getI_lt hj]
theorem machB_at {p : D_Project} (hp : Sm_Project 1099511627776 p) {j : Nat} (hj : j < p.2.2.2.1.length) : machB p (j : Int) = ltZ 0 (lenI p.2.2.2.1[j].2.1) := by
  have h : inB (j : Int) 0 (subZ .i64 (lenI p.2.2.2.1) 1) = true := by
    rw [lenI_sub _ hp.2.2.2.1.1, inB_iff]; omega
  unfold machB
  rw [if_pos h, getI_lt hj]
theorem proj_sizes {p : D_Project} (h : projB p = true) : p.2.2.2.1.length ≤ 3 ∧ p.2.2.2.2.1.length ≤ 2 ∧ p.2.2.1.length ≤ 12 := by
  unfold projB at h
  simp only [Bool.and_eq_true] at h
  obtain ⟨⟨⟨⟨⟨⟨⟨⟨-, -⟩, h1⟩, h2⟩, h3⟩, -⟩, -⟩, -⟩, -⟩ := h
  rw [notB_not, Bool.not_eq_true', Bool.eq_false_iff, Ne, ltZ_iff, lenI_eq] at h1 h2 h3
  omega
theorem add_one {α : Type} (out : List α) (x : α) (h : out.length ≤ 1000000) : addI out [x] = some (out ++ [x]) := addI_ok (by rw [room_eq]; simp; omega)
theorem mem_snoc {α : Type} {P : α → Prop} {out : List α} {x : α} (h : ∀ r ∈ out, P r) (hx : P x) : ∀ r ∈ out ++ [x], P r := fun r hr => by
  rcases List.mem_append.1 hr with h' | h'
  · exact h r h'
  · rw [List.mem_singleton.1 h']; exact hx

theorem rules_L4 (p : D_Project) (I : List D_Rule → Prop) (hI : ∀ out x, I out → ruleIn p x → I (out ++ [x])) (hp : Sm_Project 1099511627776 p) (h6 : p.2.1.length ≤ 6) {j b : Nat} (nres : Int) (hj : j < p.2.2.2.1.length) (hb : b < p.2.1.length) (m : Nat) (hm : m ≤ 1000) (out : List D_Rule) (h0 : out.length ≤ m) (hP : I out) :
    ∃ out' i, (∀ A : Type, loopN (A := A) big spec_l10Rules_L4 (((b + 1 : Nat) : Int), (b : Int), (b : Int), (p.2.1.length : Int), (j : Int), (j : Int), nres, p, out, ()) = some (.exit (Sum.inl (false, i, (b : Int), (b : Int), (p.2.1.length : Int), (j : Int), (j : Int), nres, p, out', ())))) ∧ out'.length ≤ m + 6 ∧ I out' := by
  rcases tf (machB p (j : Int)) with hM | hM
  · obtain ⟨out', e, h1, h2⟩ := grow_loop (F := spec_l10Rules_L4) (fun i out => (((b + 1 + i : Nat) : Int), (b : Int), (b : Int), (p.2.1.length : Int), (j : Int), (j : Int), nres, p, out, ())) 0 I m 1
      (fun out => Sum.inl (false, ((b + 1 + 0 : Nat) : Int), (b : Int), (b : Int), (p.2.1.length : Int), (j : Int), (j : Int), nres, p, out, ())) (by omega)
      (fun i out hi => absurd hi (by omega))
      (fun out => by
        unfold spec_l10Rules_L4
        simp only [lenI_eq, IsMachine_spec _ _ _ hp, hM, some_bind', Bool.false_eq_true, if_false]
        rcases tf (ltZ ((b + 1 + 0 : Nat) : Int) (p.2.1.length : Int)) with h | h <;> simp only [h, if_true, Bool.false_eq_true, if_false, some_bind'])
      (out := out) rfl h0 hP
    exact ⟨out', _, e, by omega, h2⟩
  · have hpos : 0 < p.2.2.2.1[j].2.1.length := by
      rw [machB_at hp hj, ltZ_iff, lenI_eq] at hM
      omega
    obtain ⟨out', e, h1, h2⟩ := grow_loop (F := spec_l10Rules_L4) (fun i out => (((b + 1 + i : Nat) : Int), (b : Int), (b : Int), (p.2.1.length : Int), (j : Int), (j : Int), nres, p, out, ())) (p.2.1.length - (b + 1)) I m 1
      (fun out => Sum.inl (false, (p.2.1.length : Int), (b : Int), (b : Int), (p.2.1.length : Int), (j : Int), (j : Int), nres, p, out, ())) (by omega)
      (fun i out hi hl hR => by
        have hk : b + 1 + i < p.2.1.length := by omega
        refine ⟨out ++ [(5, (j : Int), (b : Int), ((b + 1 + i : Nat) : Int), ())], ?_, by simp; omega, hI _ _ hR (.inr (.inr (.inr (.inl ⟨rfl, j, b, b + 1 + i, hj, rfl, rfl, rfl, hb, hk, hpos, by omega⟩))))⟩
        unfold spec_l10Rules_L4
        simp only [lenI_eq, lt_yes hk, if_true, IsMachine_spec _ _ _ hp, hM, some_bind', add_one out _ (by omega), idxN hk (show p.2.1.length ≤ 6 by omega) (by omega)]
        rfl)
      (fun out => by
        have e : b + 1 + (p.2.1.length - (b + 1)) = p.2.1.length := by omega
        unfold spec_l10Rules_L4
        simp only [e, lenI_eq, lt_no, Bool.false_eq_true, if_false, some_bind'])
      (out := out) rfl h0 hP
    exact ⟨out', _, e, by omega, h2⟩
theorem rules_L5 (p : D_Project) (I : List D_Rule → Prop) (hI : ∀ out x, I out → ruleIn p x → I (out ++ [x])) (hp : Sm_Project 1099511627776 p) (h6 : p.2.1.length ≤ 6) {j : Nat} (nres : Int) (hj : j < p.2.2.2.1.length) (m : Nat) (hm : m ≤ 900) (out : List D_Rule) (h0 : out.length ≤ m) (hP : I out) :
    ∃ out', (∀ A : Type, loopN (A := A) big spec_l10Rules_L5 (0, (p.2.1.length : Int), (j : Int), (j : Int), nres, p, out, ()) = some (.exit (Sum.inl (false, (p.2.1.length : Int), (p.2.1.length : Int), (j : Int), (j : Int), nres, p, out', ())))) ∧ out'.length ≤ m + 36 ∧ I out' := by
  obtain ⟨out', e, h1, h2⟩ := grow_loop (F := spec_l10Rules_L5) (fun i out => ((i : Int), (p.2.1.length : Int), (j : Int), (j : Int), nres, p, out, ())) p.2.1.length I m 6
    (fun out => Sum.inl (false, (p.2.1.length : Int), (p.2.1.length : Int), (j : Int), (j : Int), nres, p, out, ())) (by omega)
    (fun i out hi hl hR => by
      obtain ⟨out', k, e, g1, g2⟩ := rules_L4 p I hI hp h6 nres hj hi (m + i * 6) (by omega) out hl hR
      refine ⟨out', ?_, by omega, g2⟩
      unfold spec_l10Rules_L5
      simp only [lt_yes hi, if_true, idxN hi (show p.2.1.length ≤ 6 by omega) (by omega), e, some_bind'])
    (fun out => by
      unfold spec_l10Rules_L5
      simp only [lt_no, Bool.false_eq_true, if_false])
    (out := out) rfl h0 hP
  exact ⟨out', e, by omega, h2⟩
theorem rules_L2 (p : D_Project) (I : List D_Rule → Prop) (hI : ∀ out x, I out → ruleIn p x → I (out ++ [x])) {j : Nat} (nres : Int) (hj : j < p.2.2.2.1.length) (m : Nat) (hm : m ≤ 900) (out : List D_Rule) (h0 : out.length ≤ m) (hP : I out) :
    ∃ out', (∀ A : Type, loopN (A := A) big spec_l10Rules_L2 (0, (j : Int), (j : Int), nres, p, out, ()) = some (.exit (Sum.inl (false, ((61 : Nat) : Int), (j : Int), (j : Int), nres, p, out', ())))) ∧ out'.length ≤ m + 61 ∧ I out' := by
  obtain ⟨out', e, h1, h2⟩ := grow_loop (F := spec_l10Rules_L2) (fun i out => ((i : Int), (j : Int), (j : Int), nres, p, out, ())) 61 I m 1
    (fun out => Sum.inl (false, ((61 : Nat) : Int), (j : Int), (j : Int), nres, p, out, ())) (by omega)
    (fun i out hi hl hR => by
      have ht : leZ (i : Int) 60 = true := by rw [leZ_iff]; omega
      refine ⟨out ++ [(3, (j : Int), (i : Int), 0, ())], ?_, by simp; omega, hI _ _ hR (.inr (.inr (.inl ⟨rfl, j, rfl, hj⟩)))⟩
      unfold spec_l10Rules_L2
      simp only [ht, if_true, add_one out _ (by omega), some_bind', idxN hi (Nat.le_refl _) (show 61 ≤ 1099511627776 by omega)])
    (fun out => by
      have ht : leZ ((61 : Nat) : Int) 60 = false := rfl
      unfold spec_l10Rules_L2
      simp only [ht, Bool.false_eq_true, if_false])
    (out := out) rfl h0 hP
  exact ⟨out', e, by omega, h2⟩
/-- the rules of a project -/
def ruleL (p : D_Project) : List D_Rule := match spec_l10Rules (p, ()) () with | some l => l.1 | none => []
theorem foldl_snoc_map {α β : Type} (f : α → β) : ∀ (l : List α) (out : List β), l.foldl (fun out x => out ++ [f x]) out = out ++ l.map f
  | [], out => by simp
  | x :: l, out => by
    rw [List.foldl_cons, foldl_snoc_map f l]
    simp
def linkR (p : D_Project) : List D_Rule := (iotaI p.2.2.1.length).map fun k => (1, k, 0, 0, ())
def endR (p : D_Project) : List D_Rule := (iotaI p.2.1.length).map fun a => (2, a, 0, 0, ())
theorem rules_ok (p : D_Project) (hp : Sm_Project 1099511627776 p) (h : projB p = true) : ∃ l, spec_l10Rules (p, ()) () = some (l, ()) ∧ l.length ≤ 400 ∧ (∀ r ∈ l, ruleIn p r) ∧ (linkR p ++ endR p) <+: l := by
  obtain ⟨-, h6⟩ := proj_acts h
  obtain ⟨hr, hst, hk⟩ := proj_sizes h
  have e0 := fun A : Type => (fold_loop (A := A) (F := spec_l10Rules_L0) (fun i out => ((i : Int), (p.2.2.1.length : Int), p, out, ())) p.2.2.1.length (fun i out => out.length = i) (fun i out => out ++ [(1, (i : Int), 0, 0, ())]) (fun out => Sum.inl (false, (p.2.2.1.length : Int), (p.2.2.1.length : Int), p, out, ())) (by omega)
    (fun i out hi hl => by
      refine ⟨?_, by simp; omega⟩
      unfold spec_l10Rules_L0
      simp only [lt_yes hi, if_true, add_one out _ (by omega), some_bind', idxN hi hk (show 12 ≤ 1099511627776 by omega)])
    (fun out _ => by
      unfold spec_l10Rules_L0
      simp only [lt_no, Bool.false_eq_true, if_false])
    (a := []) rfl).1
  have f0 : foldN (fun i (out : List D_Rule) => out ++ [(1, (i : Int), 0, 0, ())]) p.2.2.1.length 0 [] = linkR p := by
    rw [foldN_iota (fun (out : List D_Rule) (x : Int) => out ++ [(1, x, 0, 0, ())]) p.2.2.1.length [], foldl_snoc_map]
    rfl
  have n0 : (linkR p).length ≤ 12 := by simp [linkR, iotaI_length]; omega
  have e1 := fun A : Type => (fold_loop (A := A) (F := spec_l10Rules_L1) (fun i out => ((i : Int), (p.2.1.length : Int), p, out, ())) p.2.1.length (fun i out => out.length ≤ 12 + i) (fun i out => out ++ [(2, (i : Int), 0, 0, ())]) (fun out => Sum.inl (false, (p.2.1.length : Int), (p.2.1.length : Int), p, out, ())) (by omega)
    (fun i out hi hl => by
      refine ⟨?_, by simp; omega⟩
      unfold spec_l10Rules_L1
      simp only [lt_yes hi, if_true, add_one out _ (by omega), some_bind', idxN hi h6 (show 6 ≤ 1099511627776 by omega)])
    (fun out _ => by
      unfold spec_l10Rules_L1
      simp only [lt_no, Bool.false_eq_true, if_false])
    (a := linkR p) (by omega)).1
  have f1 : foldN (fun i (out : List D_Rule) => out ++ [(2, (i : Int), 0, 0, ())]) p.2.1.length 0 (linkR p) = linkR p ++ endR p := by
    rw [foldN_iota (fun (out : List D_Rule) (x : Int) => out ++ [(2, x, 0, 0, ())]) p.2.1.length (linkR p), foldl_snoc_map]
    rfl
  have n1 : (linkR p ++ endR p).length ≤ 18 := by simp [linkR, endR, iotaI_length]; omega
  have P1 : ∀ r ∈ linkR p ++ endR p, ruleIn p r := fun r hr => by
    rcases List.mem_append.1 hr with hr | hr
    · obtain ⟨x, hx, rfl⟩ := List.mem_map.1 hr
      obtain ⟨i, rfl, hi⟩ := iotaI_mem hx
      exact .inl ⟨rfl, i, rfl, hi⟩
    · obtain ⟨x, hx, rfl⟩ := List.mem_map.1 hr
      obtain ⟨i, rfl, hi⟩ := iotaI_mem hx
      exact .inr (.inl ⟨rfl, i, rfl, hi⟩)
  let I : List D_Rule → Prop := fun out => (∀ r ∈ out, ruleIn p r) ∧ (linkR p ++ endR p) <+: out
  have hI : ∀ out x, I out → ruleIn p x → I (out ++ [x]) := fun out x h hx => ⟨mem_snoc h.1 hx, h.2.trans (List.prefix_append _ _)⟩
  obtain ⟨o3, e3, l3, P3⟩ := grow_loop (F := spec_l10Rules_L3) (fun i out => ((i : Int), (p.2.2.2.1.length : Int), p, out, ())) p.2.2.2.1.length I 18 61
    (fun out => Sum.inl (false, (p.2.2.2.1.length : Int), (p.2.2.2.1.length : Int), p, out, ())) (by omega)
    (fun i out hi hl hR => by
      obtain ⟨out', e, g1, g2⟩ := rules_L2 p I hI (p.2.2.2.1.length : Int) hi (18 + i * 61) (by omega) out hl hR
      refine ⟨out', ?_, by omega, g2⟩
      unfold spec_l10Rules_L3
      simp only [lt_yes hi, if_true, e, some_bind', idxN hi hr (show 3 ≤ 1099511627776 by omega)])
    (fun out => by
      unfold spec_l10Rules_L3
      simp only [lt_no, Bool.false_eq_true, if_false])
    (out := linkR p ++ endR p) rfl n1 ⟨P1, List.prefix_rfl⟩
  obtain ⟨o6, e6, l6, P6⟩ := grow_loop (F := spec_l10Rules_L6) (fun i out => ((i : Int), (p.2.2.2.1.length : Int), p, out, ())) p.2.2.2.1.length I 201 36
    (fun out => Sum.inl (false, (p.2.2.2.1.length : Int), (p.2.2.2.1.length : Int), p, out, ())) (by omega)
    (fun i out hi hl hR => by
      obtain ⟨out', e, g1, g2⟩ := rules_L5 p I hI hp h6 (p.2.2.2.1.length : Int) hi (201 + i * 36) (by omega) out hl hR
      refine ⟨out', ?_, by omega, g2⟩
      unfold spec_l10Rules_L6
      simp only [lt_yes hi, if_true, lenI_eq, e, some_bind', idxN hi hr (show 3 ≤ 1099511627776 by omega)])
    (fun out => by
      unfold spec_l10Rules_L6
      simp only [lt_no, Bool.false_eq_true, if_false])
    (out := o3) rfl (by omega) P3
  obtain ⟨o7, e7, l7, P7⟩ := grow_loop (F := spec_l10Rules_L7) (fun i out => ((i : Int), (p.2.2.2.2.1.length : Int), out, ())) p.2.2.2.2.1.length I 309 1
    (fun out => Sum.inl (false, (p.2.2.2.2.1.length : Int), (p.2.2.2.2.1.length : Int), out, ())) (by omega)
    (fun i out hi hl hR => by
      refine ⟨out ++ [(6, (i : Int), 0, 0, ())], ?_, by simp; omega, hI _ _ hR (.inr (.inr (.inr (.inr ⟨rfl, i, rfl, hi⟩))))⟩
      unfold spec_l10Rules_L7
      simp only [lt_yes hi, if_true, add_one out _ (by omega), some_bind', idxN hi hst (show 2 ≤ 1099511627776 by omega)])
    (fun out => by
      unfold spec_l10Rules_L7
      simp only [lt_no, Bool.false_eq_true, if_false])
    (out := o6) rfl (by omega) P6
  refine ⟨o7, ?_, by omega, P7.1, P7.2⟩
  have z : ((0 : Nat) : Int) = 0 := rfl
  rw [f0] at e0
  rw [f1] at e1
  simp only [z] at e0 e1 e3 e6 e7
  unfold spec_l10Rules
  simp only [lenI_eq, e0, e1, e3, e6, e7, some_bind']
theorem rules_spec (p : D_Project) (u : Unit) (hp : Sm_Project 1099511627776 p) (h : projB p = true) : spec_l10Rules (p, u) () = some (ruleL p, ()) := by
  obtain ⟨l, e, -, -, -⟩ := rules_ok p hp h
  have : ruleL p = l := by unfold ruleL; rw [e]
  rw [this]; exact e
theorem ruleL_le {p : D_Project} (hp : Sm_Project 1099511627776 p) (h : projB p = true) : (ruleL p).length ≤ 400 ∧ ∀ r ∈ ruleL p, ruleIn p r := by
  obtain ⟨l, e, h1, h2, -⟩ := rules_ok p hp h
  have : ruleL p = l := by unfold ruleL; rw [e]
  rw [this]; exact ⟨h1, h2⟩
theorem rules_first {p : D_Project} (hp : Sm_Project 1099511627776 p) (h : projB p = true) : (∀ k : Nat, k < p.2.2.1.length → ((1, (k : Int), 0, 0, ()) : D_Rule) ∈ ruleL p) ∧ ∀ a : Nat, a < p.2.1.length → ((2, (a : Int), 0, 0, ()) : D_Rule) ∈ ruleL p := by
  obtain ⟨l, e, -, -, hpre⟩ := rules_ok p hp h
  have : ruleL p = l := by unfold ruleL; rw [e]
  rw [this]
  have hi : ∀ {n i : Nat}, i < n → (i : Int) ∈ iotaI n := fun {n i} h => List.mem_map.2 ⟨i, List.mem_range.2 h, rfl⟩
  refine ⟨fun k hk => hpre.subset (List.mem_append_left _ (List.mem_map.2 ⟨_, hi hk, rfl⟩)), fun a ha => hpre.subset (List.mem_append_right _ (List.mem_map.2 ⟨_, hi ha, rfl⟩))⟩
theorem rules_L2_eq : impl_Project_rules_L2 = spec_l10Rules_L2 := by
  funext v
  have h : ltZ v.1 61 = leZ v.1 60 := by
    rw [Bool.eq_iff_iff, ltZ_iff, leZ_iff]; omega
  unfold impl_Project_rules_L2 spec_l10Rules_L2
  simp only [h]
theorem rules_impl_eq : impl_Project_rules = spec_l10Rules := by
  have e0 : impl_Project_rules_L0 = spec_l10Rules_L0 := rfl
  have e1 : impl_Project_rules_L1 = spec_l10Rules_L1 := rfl
  have e3 : impl_Project_rules_L3 = spec_l10Rules_L3 := by
    unfold impl_Project_rules_L3 spec_l10Rules_L3
    rw [rules_L2_eq]
    try rfl
  have e4 : impl_Project_rules_L4 = spec_l10Rules_L4 := by
    unfold impl_Project_rules_L4 spec_l10Rules_L4
    rw [IsMachine_impl_eq]
    try rfl
  have e5 : impl_Project_rules_L5 = spec_l10Rules_L5 := by
    unfold impl_Project_rules_L5 spec_l10Rules_L5
    rw [e4]
    try rfl
  have e6 : impl_Project_rules_L6 = spec_l10Rules_L6 := by
    unfold impl_Project_rules_L6 spec_l10Rules_L6
    rw [e5]
    try rfl
  have e7 : impl_Project_rules_L7 = spec_l10Rules_L7 := rfl
  unfold impl_Project_rules spec_l10Rules
  rw [e0, e1, e3, e6, e7]
  try rfl
end Go.Proofs.YtjgmjljdhgfdhaaGreat
