/-
  Plain laws: what holds of a plan that was made by adding what fits, kept by each addition (activities added in the order of their numbers).
-/
import Derived.Test.YtjjlancmbaacfaaGreath4LPlanM
import Derived.Test.YtjjlancmbaacfaaGreatN34
namespace Go.Proofs.YtjjlancmbaacfaaGreat
open Go.Abs
set_option linter.unusedVariables false
set_option linter.unusedSimpArgs false

theorem hasB_iffW {l : List Int} {n : Int} : hasB l n = true ↔ n ∈ l := by
  unfold hasB
  rw [List.any_eq_true]
  exact ⟨fun ⟨x, hx, h⟩ => (eqZ_iff.1 h) ▸ hx, fun h => ⟨n, h, eqZ_self n⟩⟩
/-! what an addition leaves alone -/
theorem loc_st {s : D_Schedule} {a i : Nat} {m t : Int} (h : i ≠ a) : getI (putS s (a : Int) m t).1 (i : Int) = getI s.1 (i : Int) := getI_setI_ne h
theorem loc_md {s : D_Schedule} {a i : Nat} {m t : Int} (h : i ≠ a) : getI (putS s (a : Int) m t).2.1 (i : Int) = getI s.2.1 (i : Int) := getI_setI_ne h
theorem loc_mode (p : D_Project) {s : D_Schedule} {a i : Nat} {m t : Int} (h : i ≠ a) (u : Unit) : spec_l09Mode (p, putS s (a : Int) m t, (i : Int), u) () = spec_l09Mode (p, s, (i : Int), u) () := by
  unfold spec_l09Mode
  simp only [loc_md h]
theorem loc_end (p : D_Project) {s : D_Schedule} {a i : Nat} {m t : Int} (h : i ≠ a) (u : Unit) : spec_l09End (p, putS s (a : Int) m t, (i : Int), u) () = spec_l09End (p, s, (i : Int), u) () := by
  unfold spec_l09End
  simp only [loc_st h, loc_mode p h]
theorem loc_run (p : D_Project) {s : D_Schedule} {a i : Nat} {m t : Int} (h : i ≠ a) (t' : Int) : runBP p (putS s (a : Int) m t) t' (i : Int) = runBP p s t' (i : Int) := by
  unfold runBP
  rw [loc_st h, loc_end p h]
theorem loc_use (p : D_Project) {s : D_Schedule} {a i : Nat} {m t : Int} (h : i ≠ a) (j : Int) : useOfP p (putS s (a : Int) m t) j (i : Int) = useOfP p s j (i : Int) := by
  unfold useOfP
  rw [loc_mode p h]
theorem loc_fail {p : D_Project} {s : D_Schedule} {a k : Nat} {m t : Int} (hp : Sm_Project 1099511627776 p) (h : formB p s = true) (hk : k < p.2.2.1.length) (h1 : p.2.2.1[k].1 ≠ (a : Int)) (h2 : p.2.2.1[k].2.1 ≠ (a : Int)) : failP p (putS s (a : Int) m t) k = failP p s k := by
  obtain ⟨f, o, ef, eo, hf, ho, -⟩ := link_atP hp (proj_of_form h) hk
  have n1 : f ≠ a := fun e => h1 (by rw [ef, e])
  have n2 : o ≠ a := fun e => h2 (by rw [eo, e])
  obtain ⟨x, e, md, g1, ge, -⟩ := run_atP hp h hf
  obtain ⟨y, e', md', g1', ge', -⟩ := run_atP hp h ho
  have g2 : getI (putS s (a : Int) m t).1 (f : Int) = some x := by rw [loc_st n1, g1]
  have g2' : getI (putS s (a : Int) m t).1 (o : Int) = some y := by rw [loc_st n2, g1']
  have ge2 : ∀ u, spec_l09End (p, putS s (a : Int) m t, (f : Int), u) () = some (e, ()) := fun u => by rw [loc_end p n1, ge]
  have z : eqZ 1 1 = true := rfl
  unfold failP spec_l10Fails
  rcases tf p.2.2.1[k].2.2.1 with hb | hb
  · simp only [z, if_true, getI_lt hk, some_bind', ef, eo, g1, g1', g2, g2', ge, ge2, hb, Bool.false_eq_true, if_false]
  · simp only [z, if_true, getI_lt hk, some_bind', ef, eo, g1, g1', g2, g2', ge, ge2, hb]
theorem pairW_eq {p : D_Project} {s : D_Schedule} (hp : Sm_Project 1099511627776 p) (h : formB p s = true) {j b c : Nat} (hj : j < p.2.2.2.1.length) (hpos : 0 < p.2.2.2.1[j].2.1.length) (hb : b < p.2.1.length) (hc : c < p.2.1.length) {x e x' e' : Int} {row row' : List Int} {n n' : Int}
    (g1 : getI s.1 (b : Int) = some x) (ge : ∀ u, spec_l09End (p, s, (b : Int), u) () = some (e, ())) (g1' : getI s.1 (c : Int) = some x') (ge' : ∀ u, spec_l09End (p, s, (c : Int), u) () = some (e', ()))
    (s1 : getI p.2.2.2.1[j].2.1 p.2.1[b].2.1 = some row) (s2 : getI row p.2.1[c].2.1 = some n) (s1' : getI p.2.2.2.1[j].2.1 p.2.1[c].2.1 = some row') (s2' : getI row' p.2.1[b].2.1 = some n') :
    ∀ r0 u, spec_l10Pair (p, s, (r0, (j : Int), (b : Int), (c : Int), ()), u) () = some ((if eqZ (useOfP p s (j : Int) (b : Int)) 0 = true then false else if eqZ (useOfP p s (j : Int) (c : Int)) 0 = true then false else if leZ (addZ .i64 e n) x' = true then false else notB (leZ (addZ .i64 e' n') x)), ()) := fun r0 u => by
  obtain ⟨-, -, md, -, -, gm, -, -, -, -, -, -, gu⟩ := run_atP hp h hb
  obtain ⟨-, -, md', -, -, gm', -, -, -, -, -, -, gu'⟩ := run_atP hp h hc
  have A1 := fun u => Ahead_spec_atP (p := p) (s := s) u hj hb hc s1 s2 ge g1'
  have A2 := fun u => Ahead_spec_atP (p := p) (s := s) u hj hc hb s1' s2' ge' g1
  unfold spec_l10Pair
  simp only [some_bind', gm, gm', gu j hj, gu' j hj]
  rcases tf (eqZ (useOfP p s (j : Int) (b : Int)) 0) with h1 | h1 <;> rcases tf (eqZ (useOfP p s (j : Int) (c : Int)) 0) with h2 | h2 <;> rcases tf (leZ (addZ .i64 e n) x') with h3 | h3 <;> simp [notB, h1, h2, h3, gm', gu' j hj, A1, A2]
theorem loc_pair {p : D_Project} {s : D_Schedule} {a j b c : Nat} {m t : Int} (hp : Sm_Project 1099511627776 p) (h : formB p s = true) (h' : formB p (putS s (a : Int) m t) = true) (hj : j < p.2.2.2.1.length) (hpos : 0 < p.2.2.2.1[j].2.1.length) (hb : b < p.2.1.length) (hc : c < p.2.1.length) (n1 : b ≠ a) (n2 : c ≠ a) :
    pairW p (putS s (a : Int) m t) (j : Int) (b : Int) (c : Int) = pairW p s (j : Int) (b : Int) (c : Int) := by
  have h0 := proj_of_form h
  obtain ⟨x, e, -, g1, ge, -⟩ := run_atP hp h hb
  obtain ⟨x', e', -, g1', ge', -⟩ := run_atP hp h hc
  obtain ⟨row, n, s1, s2, -⟩ := setup_atP h0 hj hpos hb hc
  obtain ⟨row', n', s1', s2', -⟩ := setup_atP h0 hj hpos hc hb
  have k1 := pairW_eq hp h hj hpos hb hc g1 ge g1' ge' s1 s2 s1' s2' 0 ()
  have k2 := pairW_eq hp h' hj hpos hb hc (by rw [loc_st n1, g1]) (fun u => by rw [loc_end p n1, ge]) (by rw [loc_st n2, g1']) (fun u => by rw [loc_end p n2, ge']) s1 s2 s1' s2' 0 ()
  rw [loc_use p n1, loc_use p n2] at k2
  unfold pairW
  rw [k1, k2]
theorem foldl_same {α β : Type} {f g : α → β → α} : ∀ (l : List β) (x : α), (∀ b ∈ l, ∀ y, f y b = g y b) → l.foldl f x = l.foldl g x
  | [], x, _ => rfl
  | b :: l, x, h => by
    rw [List.foldl_cons, List.foldl_cons, h b (by simp)]
    exact foldl_same l _ fun c hc => h c (by simp [hc])
theorem loc_useD {p : D_Project} {s : D_Schedule} {a : Nat} {m t : Int} {d : List Int} (ha : actsIn p d) (hn : (a : Int) ∉ d) (j t' : Int) : useD p (putS s (a : Int) m t) d j t' = useD p s d j t' := by
  unfold useD
  refine foldl_same d 0 fun o ho y => ?_
  obtain ⟨i, rfl, hi⟩ := ha o ho
  have n1 : i ≠ a := fun e => hn (e ▸ ho)
  rw [loc_run p n1, loc_use p n1]
theorem capVP_ge {l : List D_Step} (h : stepsB l = true) (t : Int) : 0 ≤ capVP l t := by
  have hs : ∀ s ∈ l, 0 ≤ s.2.1 := fun s hs => by
    obtain ⟨i, hi, rfl⟩ := List.mem_iff_getElem.1 hs
    unfold stepsB at h
    simp only [Bool.and_eq_true, List.all_eq_true, List.mem_range] at h
    have := h.1.1 i hi
    unfold stepI at this
    rw [List.getElem?_eq_getElem hi] at this
    simp only [Bool.and_eq_true] at this
    exact (inB_iff.1 this.1.2).1
  have key : ∀ (l : List D_Step) (a : Int), (∀ s ∈ l, 0 ≤ s.2.1) → 0 ≤ a → 0 ≤ l.foldl (fun n s => if leZ s.1 t = true then s.2.1 else n) a := by
    intro l
    induction l with
    | nil => intro a _ ha; exact ha
    | cons s l ih =>
      intro a hl ha
      simp only [List.foldl_cons]
      refine ih _ (fun s hs => hl s (by simp [hs])) ?_
      split
      · exact hl s (by simp)
      · exact ha
  exact key l 0 hs (by omega)
theorem proj_stepsW {p : D_Project} (h : projB p = true) {j : Nat} (hj : j < p.2.2.2.1.length) : stepsB p.2.2.2.1[j].1 = true := by
  unfold projB at h
  simp only [Bool.and_eq_true] at h
  have h1 := List.all_eq_true.1 h.1.1.2 _ (List.getElem_mem hj)
  unfold resrB at h1
  simp only [Bool.and_eq_true] at h1
  exact h1.2.1

/-- what holds of a plan made by adding what fits -/
structure PlanI (p : D_Project) (s : D_Schedule) (d : List Int) : Prop where
  f : formB p s = true
  asc : Asc d
  ain : actsIn p d
  links : ∀ k (hk : k < p.2.2.1.length), p.2.2.1[k].1 ∈ d → p.2.2.1[k].2.1 ∈ d → failP p s k = false
  ends : ∀ i : Nat, (i : Int) ∈ d → ∀ e, spec_l09End (p, s, (i : Int), ()) () = some (e, ()) → e ≤ p.1
  use : ∀ j (hj : j < p.2.2.2.1.length) (t : Int), 0 ≤ t → t ≤ 60 → useD p s d (j : Int) t ≤ capVP p.2.2.2.1[j].1 t
  pairs : ∀ j (hj : j < p.2.2.2.1.length), 0 < p.2.2.2.1[j].2.1.length → ∀ b c : Nat, (b : Int) ∈ d → (c : Int) ∈ d → b < c → pairW p s (j : Int) (b : Int) (c : Int) = false
  stocks : stocksV p s d = true
theorem PlanI.nil {p : D_Project} {s : D_Schedule} (h : formB p s = true) : PlanI p s [] where
  f := h
  asc := by constructor
  ain := fun o ho => by cases ho
  links := fun k hk h1 => by cases h1
  ends := fun i hi => by cases hi
  use := fun j hj t _ _ => capVP_ge (proj_stepsW (proj_of_form h) hj) t
  pairs := fun j hj _ b c hb => by cases hb
  stocks := by
    have h0 := proj_of_form h
    unfold projB at h0
    simp only [Bool.and_eq_true] at h0
    unfold stocksV
    refine List.all_eq_true.2 fun k hk => ?_
    have hk := List.mem_range.1 hk
    have h1 := inB_iff.1 (List.all_eq_true.1 h0.1.2 _ (List.getElem_mem hk))
    unfold stockQ
    rw [List.getElem?_eq_getElem hk]
    show notB (ltZ p.2.2.2.2.1[k] 0) = true
    rw [notB_ltZP, leZ_iff]
    exact h1.1
theorem ins_lastW {d : List Int} {a : Int} (h : ∀ o ∈ d, o < a) : insV a d = d ++ [a] := by
  have := insV_split (A := d) (B := []) h (by simp)
  simpa using this
theorem PlanI.add {p : D_Project} {s : D_Schedule} {d : List Int} {a : Nat} {m t : Int} (hp : Sm_Project 1099511627776 p) (h : PlanI p s d) (haa : a < p.2.1.length) (hlt : ∀ o ∈ d, o < (a : Int)) (ht : inB t 0 60 = true) (hm : inB m 0 (subZ .i64 (lenI p.2.1[a].2.2.1) 1) = true)
    (hfit : fitsV p s d a m t = true) : PlanI p (putS s (a : Int) m t) (insV (a : Int) d) := by
  have hn : (a : Int) ∉ d := fun hh => by have := hlt _ hh; omega
  have hf := form_put h.f haa ht hm
  have h0 := proj_of_form hf
  obtain ⟨x, e, md, g1, ge, gm, hee, hx0, hx6, hd1, hd2, hrun, hu⟩ := run_atP hp hf haa
  have hsp : e ≤ p.1 ∧ linksV p (putS s (a : Int) m t) (insV (a : Int) d) (a : Int) = true ∧ roomV p (putS s (a : Int) m t) (insV (a : Int) d) a = true ∧ stocksV p (putS s (a : Int) m t) (insV (a : Int) d) = true := by
    unfold fitsV at hfit
    rw [ge] at hfit
    unfold holdsV at hfit
    simp only [Bool.and_eq_true, leZ_iff] at hfit
    exact ⟨hfit.1, hfit.2.1.1, hfit.2.1.2, hfit.2.2⟩
  obtain ⟨he, hl, hr, hs⟩ := hsp
  have hp1 : p.1 ≤ 60 := by
    unfold projB at h0
    simp only [Bool.and_eq_true] at h0
    exact (inB_iff.1 h0.1.1.1.1.1.1.1.1).2
  have hmem : ∀ o, o ∈ insV (a : Int) d ↔ o = (a : Int) ∨ o ∈ d := fun o => insV_mem
  refine ⟨hf, insV_asc h.asc hn, acts_ins h.ain haa, ?_, ?_, ?_, ?_, hs⟩
  · intro k hk k1 k2
    by_cases q : p.2.2.1[k].1 = (a : Int) ∨ p.2.2.1[k].2.1 = (a : Int)
    · have := List.all_eq_true.1 hl k (List.mem_range.2 hk)
      unfold linkQ at this
      rw [List.getElem?_eq_getElem hk] at this
      have b1 : hasB (insV (a : Int) d) p.2.2.1[k].1 = true := hasB_iffW.2 k1
      have b2 : hasB (insV (a : Int) d) p.2.2.1[k].2.1 = true := hasB_iffW.2 k2
      have b3 : (eqZ p.2.2.1[k].1 (a : Int) || eqZ p.2.2.1[k].2.1 (a : Int)) = true := by
        rw [Bool.or_eq_true, eqZ_iff, eqZ_iff]
        exact q
      simp only [b1, b2, b3, Bool.true_and] at this
      rcases tf (failP p (putS s (a : Int) m t) k) with hh | hh
      · exact hh
      · rw [hh] at this
        cases this
    · have q1 : p.2.2.1[k].1 ≠ (a : Int) := fun hh => q (.inl hh)
      have q2 : p.2.2.1[k].2.1 ≠ (a : Int) := fun hh => q (.inr hh)
      rw [loc_fail hp h.f hk q1 q2]
      exact h.links k hk (((hmem _).1 k1).resolve_left q1) (((hmem _).1 k2).resolve_left q2)
  · intro i hi e2 h2
    by_cases q : i = a
    · subst q
      rw [ge] at h2
      cases h2
      exact he
    · rw [loc_end p q] at h2
      exact h.ends i (((hmem _).1 hi).resolve_left fun hh => q (by omega)) e2 h2
  · intro j hj t' t0 t6
    have hst := proj_stepsW h0 hj
    rcases tf (runBP p (putS s (a : Int) m t) t' (a : Int)) with hrn | hrn
    · have e1 : useD p (putS s (a : Int) m t) (insV (a : Int) d) (j : Int) t' = useD p s d (j : Int) t' := by
        rw [ins_lastW hlt]
        have := loc_useD (s := s) (m := m) (t := t) h.ain hn (j : Int) t'
        unfold useD at this ⊢
        rw [List.foldl_append, List.foldl_cons, List.foldl_nil, hrn, this]
        rfl
      rw [e1]
      exact h.use j hj t' t0 t6
    · rw [hrun] at hrn
      simp only [Bool.and_eq_true, leZ_iff, ltZ_iff] at hrn
      have hex : e = x + md.1 := by rw [hee, addZ64 (by omega) (by omega)]
      unfold roomV at hr
      rw [g1, gm] at hr
      have h1 := List.all_eq_true.1 hr j (List.mem_range.2 hj)
      unfold roomQ at h1
      rw [Bool.and_eq_true] at h1
      have h2 := List.all_eq_true.1 h1.1 (t' - x).toNat (List.mem_range.2 (by show (t' - x).toNat < md.1.toNat; omega))
      unfold timeQ at h2
      rw [List.getElem?_eq_getElem hj] at h2
      have ex : x + (((t' - x).toNat : Nat) : Int) = t' := by omega
      simp only [ex] at h2
      rw [notB_ltZP, leZ_iff] at h2
      unfold capAtV at h2
      rw [hst, inB_iff.2 ⟨t0, t6⟩, Bool.and_self, if_pos rfl] at h2
      exact h2
  · intro j hj hpos b c hb hc hbc
    by_cases q : c = a
    · subst q
      have hb' : (b : Int) ∈ d := ((hmem _).1 hb).resolve_left fun hh => by omega
      unfold roomV at hr
      rw [g1, gm] at hr
      have h1 := List.all_eq_true.1 hr j (List.mem_range.2 hj)
      unfold roomQ at h1
      rw [Bool.and_eq_true] at h1
      have h2 := List.all_eq_true.1 h1.2 (b : Int) hb
      unfold pairQ at h2
      have b1 : eqZ (b : Int) (c : Int) = false := by rw [Bool.eq_false_iff, Ne, eqZ_iff]; omega
      have b2 : machBP p (j : Int) = true := by
        unfold machBP
        have hin : inB (j : Int) 0 (subZ .i64 (lenI p.2.2.2.1) 1) = true := by
          have := hp.2.2.2.1.1
          rw [inB_iff, lenI_eq, subZ64 (by omega) (by omega)]
          omega
        rw [hin, if_pos rfl, getI_lt hj]
        show ltZ 0 (lenI p.2.2.2.1[j].2.1) = true
        rw [ltZ_iff, lenI_eq]
        omega
      rw [b1, b2, notB_false, Bool.true_and, Bool.true_and] at h2
      rcases tf (pairW p (putS s (c : Int) m t) (j : Int) (b : Int) (c : Int)) with hh | hh
      · exact hh
      · rw [hh] at h2
        cases h2
    · have hc' : (c : Int) ∈ d := ((hmem _).1 hc).resolve_left fun hh => q (by omega)
      have hca := hlt _ hc'
      have hb' : (b : Int) ∈ d := ((hmem _).1 hb).resolve_left fun hh => by omega
      obtain ⟨i, ei, hi⟩ := h.ain _ hb'
      obtain ⟨i', ei', hi'⟩ := h.ain _ hc'
      rw [loc_pair hp h.f hf hj hpos (by omega) (by omega) (by omega) q]
      exact h.pairs j hj hpos b c hb' hc' hbc
end Go.Proofs.YtjjlancmbaacfaaGreat
