/-
  Plain laws: a plan made by adding what fits, in which all activities are done, is a valid schedule that ends in time.
-/
import Derived.Test.YtjjlancmbaacfaaGreath5LInv
import Derived.Test.YtjjlancmbaacfaaGreath5LRunM
namespace Go.Proofs.YtjjlancmbaacfaaGreat
open Go.Abs
set_option linter.unusedVariables false
set_option linter.unusedSimpArgs false

theorem asc_full : ∀ (l : List Int) (lo : Int), Asc l → (∀ x ∈ l, lo ≤ x ∧ x < lo + (l.length : Int)) → l = (List.range l.length).map fun i : Nat => lo + (i : Int)
  | [], lo, _, _ => rfl
  | x :: l, lo, ha, h => by
    have ha : List.Pairwise (· < ·) (x :: l) := ha
    rw [List.pairwise_cons] at ha
    have hx := h x (by simp)
    have ih := asc_full l (lo + 1) ha.2 fun y hy => by
      have h1 := ha.1 y hy
      have h2 := h y (by simp [hy])
      simp only [List.length_cons] at h2
      omega
    have ex : x = lo := by
      cases l with
      | nil =>
        simp only [List.length_cons, List.length_nil] at hx
        omega
      | cons y l =>
        have h1 := ha.1 y (by simp)
        have e := congrArg (fun l : List Int => l[0]?) ih
        simp only [List.length_cons, List.getElem?_cons_zero, List.range_succ_eq_map, List.map_cons] at e
        have := Option.some.inj e
        omega
    rw [List.length_cons, List.range_succ_eq_map, List.map_cons, List.map_map, ex]
    congr 1
    · omega
    · conv => lhs; rw [ih]
      refine List.map_congr_left fun i _ => ?_
      simp only [Function.comp]
      omega
theorem PlanI.all {p : D_Project} {s : D_Schedule} {d : List Int} (h : PlanI p s d) (hall : d.length = p.2.1.length) : d = iotaI p.2.1.length := by
  have := asc_full d 0 h.asc fun x hx => by
    obtain ⟨i, rfl, hi⟩ := h.ain x hx
    omega
  rw [this, hall]
  unfold iotaI
  refine List.map_congr_left fun i _ => ?_
  omega
theorem iota_mem {n i : Nat} (h : i < n) : (i : Int) ∈ iotaI n := List.mem_map.2 ⟨i, List.mem_range.2 h, rfl⟩
theorem useD_all (p : D_Project) (s : D_Schedule) (j t : Int) : useD p s (iotaI p.2.1.length) j t = useV p s j t := by
  unfold useD useV runL
  rw [List.foldl_filter]
  rfl
theorem foldl_keep {α β : Type} {f : α → β → α} : ∀ (l : List β) (x : α), (∀ b ∈ l, ∀ y, f y b = y) → l.foldl f x = x
  | [], x, _ => rfl
  | b :: l, x, h => by
    rw [List.foldl_cons, h b (by simp)]
    exact foldl_keep l x fun c hc => h c (by simp [hc])
theorem whole_ok {p : D_Project} {s : D_Schedule} {d : List Int} (hp : Sm_Project 1099511627776 p) (h : PlanI p s d) (hall : d.length = p.2.1.length) : okV p s = true ∧ spanV p s ≤ p.1 := by
  have hd := h.all hall
  subst hd
  have h0 := proj_of_form h.f
  have hp1 : 1 ≤ p.1 ∧ p.1 ≤ 60 := by
    have h0 := h0
    unfold projB at h0
    simp only [Bool.and_eq_true] at h0
    exact inB_iff.1 h0.1.1.1.1.1.1.1.1
  have hend : ∀ i : Nat, i < p.2.1.length → ∀ e, spec_l09End (p, s, (i : Int), ()) () = some (e, ()) → e ≤ p.1 := fun i hi => h.ends i (iota_mem hi)
  have hv : violL p s = [] := by
    unfold violL
    rw [h.f, if_pos rfl, List.filter_eq_nil_iff]
    intro r hr
    have hin := (ruleL_le hp h0).2 r hr
    rw [Bool.not_eq_true]
    obtain ⟨k, a, r3, r4, ⟨⟩⟩ := r
    unfold ruleIn at hin
    simp only at hin
    rcases hin with ⟨rfl, k, rfl, hk⟩ | ⟨rfl, i, rfl, hi⟩ | ⟨rfl, j, rfl, hj⟩ | ⟨rfl, j, b, c, hj, rfl, rfl, rfl, hb, hc, hpos, hbc⟩ | ⟨rfl, k, rfl, hk⟩
    · obtain ⟨f, o, ef, eo, hf, ho, -⟩ := link_atP hp h0 hk
      have e1 : failB p s (1, (k : Int), r3, r4, ()) = failP p s k := by
        have z : eqZ 1 1 = true := rfl
        unfold failB failP spec_l10Fails
        simp only [z, if_true]
        rfl
      rw [e1]
      exact h.links k hk (by rw [ef]; exact iota_mem hf) (by rw [eo]; exact iota_mem ho)
    · obtain ⟨x, e, md, g1, ge, -⟩ := run_atP hp h.f hi
      have z1 : eqZ 2 1 = false := rfl
      have z2 : eqZ 2 2 = true := rfl
      have := hend i hi e (ge ())
      unfold failB spec_l10Fails
      simp only [z1, z2, if_true, Bool.false_eq_true, if_false, some_bind', ge]
      rw [Bool.eq_false_iff, Ne, ltZ_iff]
      omega
    · have z1 : eqZ 3 1 = false := rfl
      have z2 : eqZ 3 2 = false := rfl
      have z3 : eqZ 3 3 = true := rfl
      have hst : p.2.2.2.1[j].1.length ≤ 1099511627776 := (hp.2.2.2.1.2 _ (List.getElem_mem hj)).1.1
      unfold failB spec_l10Fails
      simp only [z1, z2, z3, if_true, Bool.false_eq_true, if_false, some_bind', l09Use_spec _ _ _ _ _ hp h.f hj, getI_lt hj, l03At_spec _ _ _ hst]
      rw [Bool.eq_false_iff, Ne, ltZ_iff]
      have hcap : capV p.2.2.2.1[j].1 r3 = capVP p.2.2.2.1[j].1 r3 := rfl
      rw [hcap, ← useD_all]
      by_cases q : 0 ≤ r3 ∧ r3 ≤ 60
      · have := h.use j hj r3 q.1 q.2
        omega
      · have e0 : useD p s (iotaI p.2.1.length) (j : Int) r3 = 0 := by
          unfold useD
          refine foldl_keep _ _ fun o ho y => ?_
          obtain ⟨i, rfl, hi⟩ := iotaI_mem ho
          obtain ⟨x, e, md, g1, ge, -, -, hx0, -, -, -, hrun, -⟩ := run_atP hp h.f hi
          have he := hend i hi e (ge ())
          rw [hrun]
          have : (leZ x r3 && ltZ r3 e) = false := by
            rw [Bool.eq_false_iff, Ne, Bool.and_eq_true, leZ_iff, ltZ_iff]
            omega
          rw [this]
          rfl
        have := capVP_ge (proj_stepsW h0 hj) r3
        omega
    · have z1 : eqZ 5 1 = false := rfl
      have z2 : eqZ 5 2 = false := rfl
      have z3 : eqZ 5 3 = false := rfl
      have z4 : eqZ 5 4 = false := rfl
      have z5 : eqZ 5 5 = true := rfl
      obtain ⟨w, hw, -⟩ := pair_atP hp h.f hj hpos hb hc
      have hpw := h.pairs j hj hpos b c (iota_mem hb) (iota_mem hc) hbc
      unfold pairW at hpw
      rw [hw] at hpw
      have hpw : w = false := hpw
      unfold failB spec_l10Fails
      simp only [z1, z2, z3, z4, z5, if_true, Bool.false_eq_true, if_false, some_bind', hw, hpw]
    · have z1 : eqZ 6 1 = false := rfl
      have z2 : eqZ 6 2 = false := rfl
      have z3 : eqZ 6 3 = false := rfl
      have z4 : eqZ 6 4 = false := rfl
      have z5 : eqZ 6 5 = false := rfl
      have hs := List.all_eq_true.1 h.stocks k (List.mem_range.2 hk)
      unfold stockQ at hs
      rw [List.getElem?_eq_getElem hk] at hs
      have hs : notB (ltZ p.2.2.2.2.1[k] (consD p s (iotaI p.2.1.length) (k : Int))) = true := hs
      have hc : consD p s (iotaI p.2.1.length) (k : Int) = consV p s (k : Int) := rfl
      rw [hc, notB_ltZP, leZ_iff] at hs
      unfold failB spec_l10Fails
      simp only [z1, z2, z3, z4, z5, Bool.false_eq_true, if_false, some_bind', ConsumptionOf_spec_at _ _ _ _ hp h.f hk, getI_lt hk]
      rw [Bool.eq_false_iff, Ne, ltZ_iff]
      omega
  constructor
  · unfold okV
    rw [h.f, hv]
    rfl
  · unfold spanV
    have key : ∀ (l : List Int) (m : Int), (∀ a ∈ l, endV p s a ≤ p.1) → m ≤ p.1 → l.foldl (fun m a => maxI m (endV p s a)) m ≤ p.1 := by
      intro l
      induction l with
      | nil => intro m _ hm; exact hm
      | cons a l ih =>
        intro m hl hm
        rw [List.foldl_cons]
        refine ih _ (fun b hb => hl b (by simp [hb])) ?_
        have := hl a (by simp)
        unfold maxI
        split <;> omega
    refine key _ 0 (fun a ha => ?_) (by omega)
    obtain ⟨i, rfl, hi⟩ := iotaI_mem ha
    obtain ⟨x, e, md, g1, ge, -⟩ := run_atP hp h.f hi
    have := hend i hi e (ge ())
    unfold endV
    rw [ge]
    exact this
end Go.Proofs.YtjjlancmbaacfaaGreat
