/-
  Plain laws: numbers in a row, lists that hold a number, sets, domains (several small texts in one). Condition: no list is longer than 2 to the 40.
-/
import Derived.Test.YtjhpeeapijjgjaaGreatk3LRunM
namespace Go.Proofs.YtjhpeeapijjgjaaGreat
open Go.Abs
set_option linter.unusedVariables false
set_option linter.unusedSimpArgs false

theorem grow_loopI {σ B C E : Type} {F : σ → Option (Out σ B C)} (emb : Nat → List E → σ) (n : Nat) (P : Nat → List E → Prop) (b : List E → B) (hn : n ≤ 1099511627776)
    (hs : ∀ i out, i < n → P i out → ∃ out', F (emb i out) = some (.norm (emb (i + 1) out')) ∧ P (i + 1) out')
    (he : ∀ out, F (emb n out) = some (.exit (b out))) {out : List E} {s : σ} (hs0 : s = emb 0 out) (hP : P 0 out) :
    ∃ out', (∀ A : Type, loopN (A := A) big F s = some (.exit (b out'))) ∧ P n out' := by
  classical
  subst hs0
  let f : Nat → List E → List E := fun i out => if h : i < n ∧ P i out then Classical.choose (hs i out h.1 h.2) else out
  have key := fun A : Type => fold_loop (A := A) (F := F) emb n P f b hn
    (fun i a hi hI => by
      have h : i < n ∧ P i a := ⟨hi, hI⟩
      have e : f i a = Classical.choose (hs i a h.1 h.2) := dif_pos h
      rw [e]
      exact Classical.choose_spec (hs i a h.1 h.2))
    (fun a _ => he a) (a := out) hP
  exact ⟨_, fun A => (key A).1, (key Unit).2⟩
theorem in_snoc {α : Type} {out : List α} {x r : α} (h : r ∈ out) : r ∈ out ++ [x] := List.mem_append_left _ h
theorem snoc_in {α : Type} {out : List α} {x : α} : x ∈ out ++ [x] := List.mem_append_right _ (List.mem_singleton.2 rfl)
/-- the rule of a pair, of a capacity, of a stock -/
def pairR (j b c : Nat) : D_Rule := (5, (j : Int), (b : Int), (c : Int), ())
def capR (j t : Nat) : D_Rule := (3, (j : Int), (t : Int), 0, ())
def stockR (k : Nat) : D_Rule := (6, (k : Int), 0, 0, ())
theorem mem_L4 (p : D_Project) (hp : Sm_Project 1099511627776 p) (h6 : p.2.1.length ≤ 6) {j b : Nat} (nres : Int) (hj : j < p.2.2.2.1.length) (hb : b < p.2.1.length) (m : Nat) (hm : m ≤ 1000) (out : List D_Rule) (h0 : out.length ≤ m) :
    ∃ out' i, (∀ A : Type, loopN (A := A) big spec_l10Rules_L4 (((b + 1 : Nat) : Int), (b : Int), (b : Int), (p.2.1.length : Int), (j : Int), (j : Int), nres, p, out, ()) = some (.exit (Sum.inl (false, i, (b : Int), (b : Int), (p.2.1.length : Int), (j : Int), (j : Int), nres, p, out', ())))) ∧ out'.length ≤ m + 6 ∧ (∀ r ∈ out, r ∈ out') ∧ (0 < p.2.2.2.1[j].2.1.length → ∀ c, b < c → c < p.2.1.length → pairR j b c ∈ out') := by
  rcases tf (machB p (j : Int)) with hM | hM
  · have hz : ¬ 0 < p.2.2.2.1[j].2.1.length := fun h0 => by
      have : machB p (j : Int) = true := by rw [machB_at hp hj, ltZ_iff, lenI_eq]; omega
      rw [hM] at this; cases this
    obtain ⟨out', e, h1, h2⟩ := grow_loop (F := spec_l10Rules_L4) (fun i out => (((b + 1 + i : Nat) : Int), (b : Int), (b : Int), (p.2.1.length : Int), (j : Int), (j : Int), nres, p, out, ())) 0 (fun o => ∀ r ∈ out, r ∈ o) m 1
      (fun out => Sum.inl (false, ((b + 1 + 0 : Nat) : Int), (b : Int), (b : Int), (p.2.1.length : Int), (j : Int), (j : Int), nres, p, out, ())) (by omega)
      (fun i out hi => absurd hi (by omega))
      (fun out => by
        unfold spec_l10Rules_L4
        simp only [lenI_eq, IsMachine_spec _ _ _ hp, hM, some_bind', Bool.false_eq_true, if_false]
        rcases tf (ltZ ((b + 1 + 0 : Nat) : Int) (p.2.1.length : Int)) with h | h <;> simp only [h, if_true, Bool.false_eq_true, if_false, some_bind'])
      (out := out) rfl h0 (fun r hr => hr)
    exact ⟨out', _, e, by omega, h2, fun hh => absurd hh hz⟩
  · have hpos : 0 < p.2.2.2.1[j].2.1.length := by
      rw [machB_at hp hj, ltZ_iff, lenI_eq] at hM
      omega
    obtain ⟨out', e, h1, h2, h3⟩ := grow_loopI (F := spec_l10Rules_L4) (fun i out => (((b + 1 + i : Nat) : Int), (b : Int), (b : Int), (p.2.1.length : Int), (j : Int), (j : Int), nres, p, out, ())) (p.2.1.length - (b + 1)) (fun i o => o.length ≤ m + i ∧ (∀ r ∈ out, r ∈ o) ∧ ∀ i', i' < i → pairR j b (b + 1 + i') ∈ o)
      (fun out => Sum.inl (false, (p.2.1.length : Int), (b : Int), (b : Int), (p.2.1.length : Int), (j : Int), (j : Int), nres, p, out, ())) (by omega)
      (fun i out hi hI => by
        obtain ⟨hl, hR, hN⟩ := hI
        have hk : b + 1 + i < p.2.1.length := by omega
        refine ⟨out ++ [(5, (j : Int), (b : Int), ((b + 1 + i : Nat) : Int), ())], ?_, by simp; omega, fun r hr => in_snoc (hR r hr), fun i' hi' => ?_⟩
        · unfold spec_l10Rules_L4
          simp only [lenI_eq, lt_yes hk, if_true, IsMachine_spec _ _ _ hp, hM, some_bind', add_one out _ (by omega), idxN hk (show p.2.1.length ≤ 6 by omega) (by omega)]
          rfl
        · by_cases e : i' = i
          · subst e; exact snoc_in
          · exact in_snoc (hN i' (by omega)))
      (fun out => by
        have e : b + 1 + (p.2.1.length - (b + 1)) = p.2.1.length := by omega
        unfold spec_l10Rules_L4
        simp only [e, lenI_eq, lt_no, Bool.false_eq_true, if_false, some_bind'])
      (out := out) rfl ⟨by omega, fun r hr => hr, fun i' hi' => absurd hi' (by omega)⟩
    refine ⟨out', _, e, by omega, h2, fun _ c hc hc' => ?_⟩
    have := h3 (c - (b + 1)) (by omega)
    have e2 : b + 1 + (c - (b + 1)) = c := by omega
    rw [e2] at this
    exact this
theorem mem_L5 (p : D_Project) (hp : Sm_Project 1099511627776 p) (h6 : p.2.1.length ≤ 6) {j : Nat} (nres : Int) (hj : j < p.2.2.2.1.length) (m : Nat) (hm : m ≤ 900) (out : List D_Rule) (h0 : out.length ≤ m) :
    ∃ out', (∀ A : Type, loopN (A := A) big spec_l10Rules_L5 (0, (p.2.1.length : Int), (j : Int), (j : Int), nres, p, out, ()) = some (.exit (Sum.inl (false, (p.2.1.length : Int), (p.2.1.length : Int), (j : Int), (j : Int), nres, p, out', ())))) ∧ out'.length ≤ m + 36 ∧ (∀ r ∈ out, r ∈ out') ∧ (0 < p.2.2.2.1[j].2.1.length → ∀ b c, b < c → c < p.2.1.length → pairR j b c ∈ out') := by
  obtain ⟨out', e, h1, h2, h3⟩ := grow_loopI (F := spec_l10Rules_L5) (fun i out => ((i : Int), (p.2.1.length : Int), (j : Int), (j : Int), nres, p, out, ())) p.2.1.length (fun i o => o.length ≤ m + i * 6 ∧ (∀ r ∈ out, r ∈ o) ∧ (0 < p.2.2.2.1[j].2.1.length → ∀ b c, b < i → b < c → c < p.2.1.length → pairR j b c ∈ o))
    (fun out => Sum.inl (false, (p.2.1.length : Int), (p.2.1.length : Int), (j : Int), (j : Int), nres, p, out, ())) (by omega)
    (fun i out hi hI => by
      obtain ⟨hl, hR, hN⟩ := hI
      obtain ⟨out', k, e, g1, g2, g3⟩ := mem_L4 p hp h6 nres hj hi (m + i * 6) (by omega) out hl
      refine ⟨out', ?_, by omega, fun r hr => g2 r (hR r hr), fun hpos b c hb hc hc' => ?_⟩
      · unfold spec_l10Rules_L5
        simp only [lt_yes hi, if_true, idxN hi (show p.2.1.length ≤ 6 by omega) (by omega), e, some_bind']
      · by_cases e : b = i
        · subst e; exact g3 hpos c hc hc'
        · exact g2 _ (hN hpos b c (by omega) hc hc'))
    (fun out => by
      unfold spec_l10Rules_L5
      simp only [lt_no, Bool.false_eq_true, if_false])
    (out := out) rfl ⟨by omega, fun r hr => hr, fun _ b c hb => absurd hb (by omega)⟩
  exact ⟨out', e, by omega, h2, fun hpos b c hc hc' => h3 hpos b c (by omega) hc hc'⟩
theorem mem_L2 (p : D_Project) {j : Nat} (nres : Int) (hj : j < p.2.2.2.1.length) (m : Nat) (hm : m ≤ 900) (out : List D_Rule) (h0 : out.length ≤ m) :
    ∃ out', (∀ A : Type, loopN (A := A) big spec_l10Rules_L2 (0, (j : Int), (j : Int), nres, p, out, ()) = some (.exit (Sum.inl (false, ((61 : Nat) : Int), (j : Int), (j : Int), nres, p, out', ())))) ∧ out'.length ≤ m + 61 ∧ (∀ r ∈ out, r ∈ out') ∧ ∀ t, t ≤ 60 → capR j t ∈ out' := by
  obtain ⟨out', e, h1, h2, h3⟩ := grow_loopI (F := spec_l10Rules_L2) (fun i out => ((i : Int), (j : Int), (j : Int), nres, p, out, ())) 61 (fun i o => o.length ≤ m + i ∧ (∀ r ∈ out, r ∈ o) ∧ ∀ t, t < i → capR j t ∈ o)
    (fun out => Sum.inl (false, ((61 : Nat) : Int), (j : Int), (j : Int), nres, p, out, ())) (by omega)
    (fun i out hi hI => by
      obtain ⟨hl, hR, hN⟩ := hI
      have ht : leZ (i : Int) 60 = true := by rw [leZ_iff]; omega
      refine ⟨out ++ [(3, (j : Int), (i : Int), 0, ())], ?_, by simp; omega, fun r hr => in_snoc (hR r hr), fun t h => ?_⟩
      · unfold spec_l10Rules_L2
        simp only [ht, if_true, add_one out _ (by omega), some_bind', idxN hi (Nat.le_refl _) (show 61 ≤ 1099511627776 by omega)]
      · by_cases e : t = i
        · subst e; exact snoc_in
        · exact in_snoc (hN t (by omega)))
    (fun out => by
      have ht : leZ ((61 : Nat) : Int) 60 = false := rfl
      unfold spec_l10Rules_L2
      simp only [ht, Bool.false_eq_true, if_false])
    (out := out) rfl ⟨by omega, fun r hr => hr, fun t h => absurd h (by omega)⟩
  exact ⟨out', e, by omega, h2, fun t ht => h3 t (by omega)⟩
theorem rules_mem {p : D_Project} (hp : Sm_Project 1099511627776 p) (h : projB p = true) :
    (∀ j t : Nat, j < p.2.2.2.1.length → t ≤ 60 → capR j t ∈ ruleL p) ∧ (∀ (j b c : Nat) (hj : j < p.2.2.2.1.length), 0 < p.2.2.2.1[j].2.1.length → b < c → c < p.2.1.length → pairR j b c ∈ ruleL p) ∧ ∀ k : Nat, k < p.2.2.2.2.1.length → stockR k ∈ ruleL p := by
  obtain ⟨-, h6⟩ := proj_acts h
  obtain ⟨hr, hst, hk⟩ := proj_sizes h
  have e0 := fun A : Type => (fold_loop (A := A) (F := spec_l10Rules_L0) (fun i out => ((i : Int), (p.2.2.1.length : Int), p, out, ())) p.2.2.1.length (fun i out => out.length = i) (fun i out => out ++ [(1, (i : Int), 0, 0, ())]) (fun out => Sum.inl (false, (p.2.2.1.length : Int), (p.2.2.1.length : Int), p, out, ())) (by omega)
    (fun i out hi hl => by
      refine ⟨?_, by simp; omega⟩
      unfold spec_l10Rules_L0
      simp only [lt_yes hi, if_true, add_one out _ (by omega), some_bind', idxN hi hk (show 12 ≤ 1099511627776 by omega)])
    (fun out _ => by
      unfold spec_l10Rules_L0
      simp only [lt_no, Bool.false_eq_true, if_false])
    (a := []) rfl)
  have n0 := (e0 Unit).2
  have e0' := fun A : Type => (e0 A).1
  clear e0
  generalize foldN (fun i (out : List D_Rule) => out ++ [(1, (i : Int), 0, 0, ())]) p.2.2.1.length 0 [] = o0 at n0 e0'
  have e1 := fun A : Type => (fold_loop (A := A) (F := spec_l10Rules_L1) (fun i out => ((i : Int), (p.2.1.length : Int), p, out, ())) p.2.1.length (fun i out => out.length ≤ 12 + i) (fun i out => out ++ [(2, (i : Int), 0, 0, ())]) (fun out => Sum.inl (false, (p.2.1.length : Int), (p.2.1.length : Int), p, out, ())) (by omega)
    (fun i out hi hl => by
      refine ⟨?_, by simp; omega⟩
      unfold spec_l10Rules_L1
      simp only [lt_yes hi, if_true, add_one out _ (by omega), some_bind', idxN hi h6 (show 6 ≤ 1099511627776 by omega)])
    (fun out _ => by
      unfold spec_l10Rules_L1
      simp only [lt_no, Bool.false_eq_true, if_false])
    (a := o0) (by omega))
  have n1 := (e1 Unit).2
  have e1' := fun A : Type => (e1 A).1
  clear e1
  generalize foldN (fun i (out : List D_Rule) => out ++ [(2, (i : Int), 0, 0, ())]) p.2.1.length 0 o0 = o1 at n1 e1'
  obtain ⟨o3, e3, l3, P3⟩ := grow_loopI (F := spec_l10Rules_L3) (fun i out => ((i : Int), (p.2.2.2.1.length : Int), p, out, ())) p.2.2.2.1.length (fun i o => o.length ≤ 18 + i * 61 ∧ ∀ j t, j < i → t ≤ 60 → capR j t ∈ o)
    (fun out => Sum.inl (false, (p.2.2.2.1.length : Int), (p.2.2.2.1.length : Int), p, out, ())) (by omega)
    (fun i out hi hI => by
      obtain ⟨hl, hN⟩ := hI
      obtain ⟨out', e, g1, g2, g3⟩ := mem_L2 p (p.2.2.2.1.length : Int) hi (18 + i * 61) (by omega) out hl
      refine ⟨out', ?_, by omega, fun j t hj ht => ?_⟩
      · unfold spec_l10Rules_L3
        simp only [lt_yes hi, if_true, e, some_bind', idxN hi hr (show 3 ≤ 1099511627776 by omega)]
      · by_cases e : j = i
        · subst e; exact g3 t ht
        · exact g2 _ (hN j t (by omega) ht))
    (fun out => by
      unfold spec_l10Rules_L3
      simp only [lt_no, Bool.false_eq_true, if_false])
    (out := o1) rfl ⟨by omega, fun j t hj => absurd hj (by omega)⟩
  obtain ⟨o6, e6, l6, P6, Q6⟩ := grow_loopI (F := spec_l10Rules_L6) (fun i out => ((i : Int), (p.2.2.2.1.length : Int), p, out, ())) p.2.2.2.1.length (fun i o => o.length ≤ 201 + i * 36 ∧ (∀ r ∈ o3, r ∈ o) ∧ ∀ (j b c : Nat) (hj : j < p.2.2.2.1.length), j < i → 0 < p.2.2.2.1[j].2.1.length → b < c → c < p.2.1.length → pairR j b c ∈ o)
    (fun out => Sum.inl (false, (p.2.2.2.1.length : Int), (p.2.2.2.1.length : Int), p, out, ())) (by omega)
    (fun i out hi hI => by
      obtain ⟨hl, hR, hN⟩ := hI
      obtain ⟨out', e, g1, g2, g3⟩ := mem_L5 p hp h6 (p.2.2.2.1.length : Int) hi (201 + i * 36) (by omega) out hl
      refine ⟨out', ?_, by omega, fun r hr => g2 r (hR r hr), fun j b c hj hji hpos hc hc' => ?_⟩
      · unfold spec_l10Rules_L6
        simp only [lt_yes hi, if_true, lenI_eq, e, some_bind', idxN hi hr (show 3 ≤ 1099511627776 by omega)]
      · by_cases e : j = i
        · subst e; exact g3 hpos b c hc hc'
        · exact g2 _ (hN j b c hj (by omega) hpos hc hc'))
    (fun out => by
      unfold spec_l10Rules_L6
      simp only [lt_no, Bool.false_eq_true, if_false])
    (out := o3) rfl ⟨by omega, fun r hr => hr, fun j b c hj hji => absurd hji (by omega)⟩
  obtain ⟨o7, e7, l7, P7, Q7⟩ := grow_loopI (F := spec_l10Rules_L7) (fun i out => ((i : Int), (p.2.2.2.2.1.length : Int), out, ())) p.2.2.2.2.1.length (fun i o => o.length ≤ 309 + i ∧ (∀ r ∈ o6, r ∈ o) ∧ ∀ k, k < i → stockR k ∈ o)
    (fun out => Sum.inl (false, (p.2.2.2.2.1.length : Int), (p.2.2.2.2.1.length : Int), out, ())) (by omega)
    (fun i out hi hI => by
      obtain ⟨hl, hR, hN⟩ := hI
      refine ⟨out ++ [(6, (i : Int), 0, 0, ())], ?_, by simp; omega, fun r hr => in_snoc (hR r hr), fun k hk => ?_⟩
      · unfold spec_l10Rules_L7
        simp only [lt_yes hi, if_true, add_one out _ (by omega), some_bind', idxN hi hst (show 2 ≤ 1099511627776 by omega)]
      · by_cases e : k = i
        · subst e; exact snoc_in
        · exact in_snoc (hN k (by omega)))
    (fun out => by
      unfold spec_l10Rules_L7
      simp only [lt_no, Bool.false_eq_true, if_false])
    (out := o6) rfl ⟨by omega, fun r hr => hr, fun k hk => absurd hk (by omega)⟩
  have hL : ruleL p = o7 := by
    have z : ((0 : Nat) : Int) = 0 := rfl
    simp only [z] at e0' e1' e3 e6 e7
    have : spec_l10Rules (p, ()) () = some (o7, ()) := by
      unfold spec_l10Rules
      simp only [lenI_eq, e0', e1', e3, e6, e7, some_bind']
    unfold ruleL
    rw [this]
  rw [hL]
  exact ⟨fun j t hj ht => P7 _ (P6 _ (P3 j t hj ht)), fun j b c hj hpos hc hc' => P7 _ (Q6 j b c hj hj hpos hc hc'), Q7⟩
theorem ok_rule {p : D_Project} {s : D_Schedule} (h : okV p s = true) {r : D_Rule} (hr : r ∈ ruleL p) : failB p s r = false := by
  have hf := form_of_ok h
  unfold okV violL at h
  rw [if_pos hf, Bool.and_eq_true] at h
  have h2 := h.2
  rw [eqZ_dec, decide_eq_true_eq, lenI_eq] at h2
  have h3 : (ruleL p).filter (failB p s) = [] := List.eq_nil_of_length_eq_zero (by omega)
  rw [List.filter_eq_nil_iff] at h3
  exact Bool.eq_false_iff.2 (h3 r hr)
open Go.Abs
set_option linter.unusedVariables false
set_option linter.unusedSimpArgs false

def endV (p : D_Project) (s : D_Schedule) (a : Int) : Int := match spec_l09End (p, s, a, ()) () with | some e => e.1 | none => 0
theorem endV_at {p : D_Project} {s : D_Schedule} (hp : Sm_Project 1099511627776 p) (h : formB p s = true) {i : Nat} (hi : i < p.2.1.length) : (∀ u, spec_l09End (p, s, (i : Int), u) () = some (endV p s (i : Int), ())) ∧ 1 ≤ endV p s (i : Int) ∧ endV p s (i : Int) ≤ 72 := by
  obtain ⟨x, e, md, g1, ge, gm, he, h1, h2, h3, h4, -⟩ := run_at hp h hi
  have : endV p s (i : Int) = e := by unfold endV; rw [ge]
  rw [this]
  refine ⟨ge, ?_⟩
  rw [he, addZ64 (by omega) (by omega)]
  omega
/-- the end of the last activity -/
def spanV (p : D_Project) (s : D_Schedule) : Int := (iotaI p.2.1.length).foldl (fun m a => maxI m (endV p s a)) 0
theorem Makespan_impl (p : D_Project) (s : D_Schedule) (u : Unit) (hp : Sm_Project 1099511627776 p) : impl_Makespan (p, s, u) () = some (if formB p s = true then spanV p s else -1, ()) := by
  have hle := hp.2.1.1
  unfold impl_Makespan
  simp only [ScheduleForm_impl _ _ _ hp, some_bind']
  rcases tf (formB p s) with h | h
  · simp [h, notB]
  have l0 := fun A : Type => (fold_loop (A := A) (F := impl_Makespan_L0) (fun i n => ((i : Int), (p.2.1.length : Int), p, s, n, ())) p.2.1.length (fun _ _ => True) (fun i n => maxI n (endV p s (i : Int))) (fun n => Sum.inl (false, (p.2.1.length : Int), (p.2.1.length : Int), p, s, n, ())) hle
    (fun i n hi _ => by
      obtain ⟨ge, -⟩ := endV_at hp h hi
      refine ⟨?_, trivial⟩
      unfold impl_Makespan_L0
      simp only [lt_yes hi, if_true, end_impl, ge, some_bind', idxN hi hle (Nat.le_refl _)])
    (fun n _ => by
      unfold impl_Makespan_L0
      simp only [lt_no, Bool.false_eq_true, if_false])
    (a := 0) trivial).1
  have e0 : (((0 : Nat) : Int), (p.2.1.length : Int), p, s, (0 : Int), ()) = ((0 : Int), (p.2.1.length : Int), p, s, (0 : Int), ()) := rfl
  rw [e0] at l0
  have e1 := foldN_iota (fun (n x : Int) => maxI n (endV p s x)) p.2.1.length 0
  simp only [h, notB_true, Bool.false_eq_true, if_false, if_true, lenI_eq, l0, some_bind', e1, spanV]
end Go.Proofs.YtjhpeeapijjgjaaGreat
