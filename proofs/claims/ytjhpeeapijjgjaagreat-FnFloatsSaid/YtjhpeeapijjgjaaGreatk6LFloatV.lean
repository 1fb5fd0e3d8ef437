/-
  Plain laws: what the program's floats are, for a valid schedule: the greatest moves that leave it valid. Condition: no list is longer than 2 to the 40.
-/
import Derived.Test.YtjhpeeapijjgjaaGreatk6LGood
import Derived.Test.YtjhpeeapijjgjaaGreatk6LRunM
namespace Go.Proofs.YtjhpeeapijjgjaaGreat
open Go.Abs
set_option linter.unusedVariables false
set_option linter.unusedSimpArgs false

theorem inB_iF {p : D_Project} (hp : Sm_Project 1099511627776 p) {i : Nat} (hi : i < p.2.1.length) : inB (i : Int) 0 (subZ .i64 (lenI p.2.1) 1) = true := by
  have := hp.2.1.1
  rw [inB_iff, lenI_eq, subZ64 (by omega) (by omega)]
  omega
theorem FreeFloat_V {p : D_Project} {s : D_Schedule} (hp : Sm_Project 1099511627776 p) (h : okV p s = true) {i : Nat} (hi : i < p.2.1.length) {x : Int} (hx : getI s.1 (i : Int) = some x) :
    ∃ v : Nat, (∀ u, impl_FreeFloat (p, s, (i : Int), u) () = some ((v : Int), ())) ∧ okV p (mvS s i (x + v)) = true ∧ okV p (mvS s i (x + v + 1)) = false ∧ x + v ≤ 60 := by
  have hs := shape_of_form hp (form_of_ok h)
  obtain ⟨x', hx', x0, x6⟩ := start_of_ok hp h hi
  rw [hx] at hx'
  cases hx'
  rcases one_loop (F := impl_FreeFloat_L0) (fun k (_ : Unit) => (p, s, (i : Int), (k : Int), ())) 60 (fun k _ => x + (k : Int) ≤ 60 ∧ okV p (mvS s i (x + (k : Int))) = true)
    (fun o => ∃ v : Nat, (x + (v : Int) ≤ 60 ∧ okV p (mvS s i (x + (v : Int))) = true ∧ okV p (mvS s i (x + v + 1)) = false) ∧ o = Sum.inl (false, p, s, (i : Int), (v : Int), ())) (fun _ => False) (by omega)
    (fun k _ hk hI => by
      have a1 : addZ .i64 (k : Int) 1 = ((k + 1 : Nat) : Int) := by rw [addZ64 (by omega) (by omega)]; omega
      have a2 : addZ .i64 x ((k + 1 : Nat) : Int) = x + ((k + 1 : Nat) : Int) := addZ64 (by omega) (by omega)
      have a3 : x + ((k + 1 : Nat) : Int) = x + k + 1 := by omega
      rcases tf (okV p (mvS s i (x + ((k + 1 : Nat) : Int)))) with h2 | h2
      · refine .inr (.inl ⟨_, ?_, k, ⟨hI.1, hI.2, by rw [← a3]; exact h2⟩, rfl⟩)
        unfold impl_FreeFloat_L0
        simp only [a1, later_at hs _ _ hx, a2, some_bind', ScheduleOk_impl _ _ _ hp, h2, Bool.false_eq_true, if_false]
      · obtain ⟨y, hy, y0, y6⟩ := start_of_ok hp h2 hi
        rw [mvS_at hx] at hy
        cases hy
        refine .inl ⟨(), by omega, ?_, y6, h2⟩
        unfold impl_FreeFloat_L0
        simp only [a1, later_at hs _ _ hx, a2, some_bind', ScheduleOk_impl _ _ _ hp, h2, if_true])
    (a := ()) (s := (p, s, (i : Int), 0, ())) rfl ⟨by omega, by
      have e : x + ((0 : Nat) : Int) = x := by omega
      rw [e, mvS_self hx]; exact h⟩ with ⟨o, e, v, ⟨h1, h2, h3⟩, rfl⟩ | ⟨c, -, hc⟩
  · refine ⟨v, fun u => ?_, h2, h3, h1⟩
    unfold impl_FreeFloat
    simp only [ScheduleOk_impl _ _ _ hp, h, notB_true, Bool.false_eq_true, if_false, hasActivity_eq, inB_iF hp hi, some_bind', e]
  · exact absurd hc id
def ffV (p : D_Project) (s : D_Schedule) (i : Nat) : Int := match impl_FreeFloat (p, s, (i : Int), ()) () with | some v => v.1 | none => 0
theorem ffV_at {p : D_Project} {s : D_Schedule} (hp : Sm_Project 1099511627776 p) (h : okV p s = true) {i : Nat} (hi : i < p.2.1.length) {x : Int} (hx : getI s.1 (i : Int) = some x) :
    (∀ u, impl_FreeFloat (p, s, (i : Int), u) () = some (ffV p s i, ())) ∧ okV p (mvS s i (x + ffV p s i)) = true ∧ okV p (mvS s i (x + ffV p s i + 1)) = false ∧ 0 ≤ ffV p s i ∧ x + ffV p s i ≤ 60 := by
  obtain ⟨v, e, h1, h2, h3⟩ := FreeFloat_V hp h hi hx
  have : ffV p s i = (v : Int) := by unfold ffV; rw [e]
  rw [this]
  exact ⟨e, h1, h2, by omega, h3⟩
theorem FreeFloats_V {p : D_Project} {s : D_Schedule} (hp : Sm_Project 1099511627776 p) (h : okV p s = true) (u : Unit) : ∃ w : List Int, impl_FreeFloats (p, s, u) () = some (w, ()) ∧ w.length = p.2.1.length ∧ ∀ i : Nat, i < p.2.1.length → getI w (i : Int) = some (ffV p s i) := by
  have h6 := (proj_acts (proj_of_form (form_of_ok h))).2
  rcases one_loop (F := impl_FreeFloats_L0) (fun i (w : List Int) => ((i : Int), (p.2.1.length : Int), p, s, w, ())) p.2.1.length (fun i w => w.length = i ∧ ∀ j, j < i → w[j]? = some (ffV p s j))
    (fun o => ∃ w : List Int, (w.length = p.2.1.length ∧ ∀ j, j < p.2.1.length → w[j]? = some (ffV p s j)) ∧ o = Sum.inl (false, (p.2.1.length : Int), (p.2.1.length : Int), p, s, w, ())) (fun _ => False) (by omega)
    (fun i w hi hI => by
      obtain ⟨h1, h2⟩ := hI
      by_cases hi' : i < p.2.1.length
      · obtain ⟨x, hx, -⟩ := start_of_ok hp h hi'
        have e := (ffV_at hp h hi' hx).1
        have ad : addI w [ffV p s i] = some (w ++ [ffV p s i]) := addI_ok (by rw [room_eq]; simp; omega)
        refine .inl ⟨w ++ [ffV p s i], hi', ?_, by simp [h1], fun j hj => ?_⟩
        · unfold impl_FreeFloats_L0
          simp only [lt_yes hi', if_true, e, some_bind', ad, idxN hi' (Nat.le_refl _) (show p.2.1.length ≤ 1099511627776 by omega)]
        · by_cases q : j = i
          · subst q
            rw [List.getElem?_append_right (by omega), h1]
            simp
          · rw [List.getElem?_append_left (by omega)]
            exact h2 j (by omega)
      · obtain rfl : i = p.2.1.length := by omega
        refine .inr (.inl ⟨_, ?_, w, ⟨h1, h2⟩, rfl⟩)
        unfold impl_FreeFloats_L0
        simp only [lt_no, Bool.false_eq_true, if_false])
    (a := []) (s := (0, (p.2.1.length : Int), p, s, [], ())) rfl ⟨rfl, fun j hj => absurd hj (by omega)⟩ with ⟨o, e, w, ⟨h1, h2⟩, rfl⟩ | ⟨c, -, hc⟩
  · refine ⟨w, ?_, h1, fun i hi => by rw [getI_nat]; exact h2 i hi⟩
    unfold impl_FreeFloats
    simp only [ScheduleOk_impl _ _ _ hp, h, notB_true, Bool.false_eq_true, if_false, some_bind', lenI_eq, e]
  · exact absurd hc id
theorem FreeFloats_no {p : D_Project} {s : D_Schedule} (hp : Sm_Project 1099511627776 p) (h : okV p s = false) (u : Unit) : impl_FreeFloats (p, s, u) () = some ([], ()) := by
  unfold impl_FreeFloats
  simp only [ScheduleOk_impl _ _ _ hp, h, notB_false, if_true, some_bind']
/-- the starts of one schedule are not behind those of the other -/
def startLe (p : D_Project) (s s' : D_Schedule) : Prop := ∀ (i : Nat) (x : Int), getI s.1 (i : Int) = some x → ∃ y, getI s'.1 (i : Int) = some y ∧ x ≤ y
theorem startLe.mv {p : D_Project} {s : D_Schedule} {t : Nat} {y z : Int} (hy : getI s.1 (t : Int) = some y) (h : y ≤ z) : startLe p s (mvS s t z) := fun i x hx => by
  by_cases e : i = t
  · subst e
    rw [hy] at hx
    cases hx
    exact ⟨z, mvS_at hy, h⟩
  · exact ⟨x, by unfold mvS; rw [getI_setI_ne e]; exact hx, Int.le_refl _⟩
theorem push_V (p : D_Project) (s : D_Schedule) (hp : Sm_Project 1099511627776 p) (hs : Shape p s) : ∃ b s', Shape p s' ∧ startLe p s s' ∧ (okV p s = true → b = false ∧ s' = s) ∧ ∀ u, impl_Project_push (p, s, u) () = some (b, s') := by
  obtain ⟨-, -, hk12⟩ := proj_sizes hs.ok
  have hk : p.2.2.1.length ≤ 1099511627776 := by omega
  have hrefl : startLe p s s := fun i x hx => ⟨x, hx, Int.le_refl _⟩
  have hno : ∀ {i : Nat}, i < p.2.2.1.length → okV p s = true → impl_Project_linkHolds (p, s, p.2.2.1[i]!, ()) () = some (false, ()) → False := fun {i} hi ho hl => by
    have hf := form_of_ok ho
    have hm := (rules_first hp hs.ok).1 i hi
    have hF := ok_ruleG ho hm
    obtain ⟨b, e1, e2⟩ := linkHolds_fails p s i 0 0 hp hf hi
    have : failB p s (1, (i : Int), 0, 0, ()) = b := by unfold failB; rw [e1]
    rw [this] at hF
    subst hF
    rw [getElem!_pos p.2.2.1 i hi, e2] at hl
    cases hl
  have key : (∃ i, ∀ A : Type, loopN (A := A) big impl_Project_push_L0 (0, (p.2.2.1.length : Int), p.2.2.1, p, [], s, ()) = some (.exit (Sum.inl (false, i, (p.2.2.1.length : Int), p.2.2.1, p, [], s, ())))) ∨ ∃ s', Shape p s' ∧ startLe p s s' ∧ (okV p s = true → False) ∧ ∀ A : Type, loopN (A := A) big impl_Project_push_L0 (0, (p.2.2.1.length : Int), p.2.2.1, p, [], s, ()) = some (.ret (true, s')) := by
    rcases one_loop (F := impl_Project_push_L0) (fun i (_ : Unit) => ((i : Int), (p.2.2.1.length : Int), p.2.2.1, p, [], s, ())) p.2.2.1.length (fun _ _ => True)
      (fun o => ∃ i, o = Sum.inl (false, i, (p.2.2.1.length : Int), p.2.2.1, p, [], s, ())) (fun c => ∃ s', Shape p s' ∧ startLe p s s' ∧ (okV p s = true → False) ∧ c = (true, s')) hk
      (fun i _ hi _ => by
        by_cases hi' : i < p.2.2.1.length
        · obtain ⟨f, t, ef, et, hf, ht, -⟩ := link_at hp hs.ok hi'
          obtain ⟨x, e, g1, ge⟩ := hs.at hf
          obtain ⟨y, e', g1', ge'⟩ := hs.at ht
          have hN := hno hi'
          rw [getElem!_pos p.2.2.1 i hi'] at hN
          rcases tf p.2.2.1[i].2.2.1 with hb | hb
          · rcases tf (leZ (addZ .i64 x p.2.2.1[i].2.2.2.1) y) with hq | hq
            · refine .inr (.inr ⟨(true, mvS s t (addZ .i64 x p.2.2.1[i].2.2.2.1)), ?_, _, hs.mv t _, startLe.mv g1' (by rw [Bool.eq_false_iff, Ne, leZ_iff] at hq; omega), fun ho => hN ho ?_, rfl⟩)
              · unfold impl_Project_push_L0 impl_Project_linkHolds
                simp only [lt_yes hi', if_true, getI_lt hi', some_bind', ef, et, g1, g1', hb, Bool.false_eq_true, if_false, hq, List.nil_append, List.headD_cons]
                rfl
              · unfold impl_Project_linkHolds
                simp only [some_bind', ef, et, g1, g1', hb, Bool.false_eq_true, if_false, hq]
            · refine .inl ⟨(), hi', ?_, trivial⟩
              unfold impl_Project_push_L0 impl_Project_linkHolds
              simp only [lt_yes hi', if_true, getI_lt hi', some_bind', ef, et, g1, g1', hb, Bool.false_eq_true, if_false, hq, idxN hi' hk (Nat.le_refl _)]
          · rcases tf (leZ (addZ .i64 e p.2.2.1[i].2.2.2.1) y) with hq | hq
            · refine .inr (.inr ⟨(true, mvS s t (addZ .i64 e p.2.2.1[i].2.2.2.1)), ?_, _, hs.mv t _, startLe.mv g1' (by rw [Bool.eq_false_iff, Ne, leZ_iff] at hq; omega), fun ho => hN ho ?_, rfl⟩)
              · unfold impl_Project_push_L0 impl_Project_linkHolds
                simp only [lt_yes hi', if_true, getI_lt hi', some_bind', end_impl, ef, et, g1, g1', ge, hb, Bool.false_eq_true, if_false, hq, List.nil_append, List.headD_cons]
                rfl
              · unfold impl_Project_linkHolds
                simp only [some_bind', end_impl, ef, et, g1, g1', ge, hb, if_true, hq]
            · refine .inl ⟨(), hi', ?_, trivial⟩
              unfold impl_Project_push_L0 impl_Project_linkHolds
              simp only [lt_yes hi', if_true, getI_lt hi', some_bind', end_impl, ef, et, g1, g1', ge, hb, hq, idxN hi' hk (Nat.le_refl _)]
        · obtain rfl : i = p.2.2.1.length := by omega
          refine .inr (.inl ⟨Sum.inl (false, (p.2.2.1.length : Int), (p.2.2.1.length : Int), p.2.2.1, p, [], s, ()), ?_, _, rfl⟩)
          unfold impl_Project_push_L0
          simp only [lt_no, Bool.false_eq_true, if_false])
      (a := ()) (s := (0, (p.2.2.1.length : Int), p.2.2.1, p, [], s, ())) rfl trivial with ⟨o, e, i, rfl⟩ | ⟨c, e, s', h1, h2, h3, rfl⟩
    · exact .inl ⟨i, e⟩
    · exact .inr ⟨s', h1, h2, h3, e⟩
  rcases key with ⟨i, e⟩ | ⟨s', h1, h2, h3, e⟩
  · refine ⟨false, s, hs, hrefl, fun _ => ⟨rfl, rfl⟩, fun u => ?_⟩
    unfold impl_Project_push
    simp only [lenI_eq, e, some_bind']
  · refine ⟨true, s', h1, h2, fun ho => absurd ho h3, fun u => ?_⟩
    unfold impl_Project_push
    simp only [lenI_eq, e, some_bind']
theorem Push_V {p : D_Project} {s : D_Schedule} (hp : Sm_Project 1099511627776 p) (h : okV p s = true) {i : Nat} (hi : i < p.2.1.length) {x : Int} (hx : getI s.1 (i : Int) = some x) {k : Nat} (hk : k ≤ 60) :
    ∃ s' b, (∀ u, impl_PushActivity (p, s, (i : Int), (k : Int), u) () = some ((s', b, ()), ())) ∧ (b = true → okV p s' = true ∧ ∃ y, getI s'.1 (i : Int) = some y ∧ x ≤ y) ∧ (k = 0 → b = true) := by
  have hs := shape_of_form hp (form_of_ok h)
  obtain ⟨x', hx', x0, x6⟩ := start_of_ok hp h hi
  rw [hx] at hx'
  cases hx'
  have hT : inB (k : Int) 0 60 = true := by rw [inB_iff]; omega
  have ea : addZ .i64 x (k : Int) = x + k := addZ64 (by omega) (by omega)
  obtain ⟨z, hz⟩ : ∃ z : D_Schedule, z = ([], ([], ())) := ⟨_, rfl⟩
  rcases one_loop (F := impl_PushActivity_L0) (fun n (t : D_Schedule) => ((n : Int), p, t, z, ())) 40 (fun _ t => Shape p t ∧ (∃ y, getI t.1 (i : Int) = some y ∧ x ≤ y) ∧ (k = 0 → t = s))
    (fun o => ∃ (bo : Bool) (n : Int) (t : D_Schedule), (Shape p t ∧ (∃ y, getI t.1 (i : Int) = some y ∧ x ≤ y) ∧ (k = 0 → t = s)) ∧ o = Sum.inl (bo, n, p, t, z, ())) (fun _ => False) (by omega)
    (fun n t hn hI => by
      obtain ⟨h1, ⟨y, gy, hy⟩, h3⟩ := hI
      by_cases hn' : n < 40
      · obtain ⟨b, t', k1, k2, k3, e⟩ := push_V p t hp h1
        have hl : ltZ (n : Int) 40 = true := by rw [ltZ_iff]; omega
        have a1 : addZ .i64 (n : Int) 1 = ((n + 1 : Nat) : Int) := by rw [addZ64 (by omega) (by omega)]; omega
        obtain ⟨y', gy', hy'⟩ := k2 i y gy
        have h3' : k = 0 → t' = s := fun e0 => by
          have e1 := h3 e0
          subst e1
          exact (k3 h).2
        rcases tf b with rfl | rfl
        · refine .inr (.inl ⟨Sum.inl (false, (n : Int), p, t', z, ()), ?_, _, _, t', ⟨k1, ⟨y', gy', by omega⟩, h3'⟩, rfl⟩)
          unfold impl_PushActivity_L0
          simp only [hl, if_true, e, some_bind', Bool.false_eq_true, if_false]
        · refine .inl ⟨t', hn', ?_, k1, ⟨y', gy', by omega⟩, h3'⟩
          unfold impl_PushActivity_L0
          simp only [hl, if_true, e, some_bind', a1]
      · have hn4 : n = 40 := by omega
        subst hn4
        have hl : ltZ ((40 : Nat) : Int) 40 = false := rfl
        refine .inr (.inl ⟨Sum.inl (false, ((40 : Nat) : Int), p, t, z, ()), ?_, _, _, t, ⟨h1, ⟨y, gy, hy⟩, h3⟩, rfl⟩)
        unfold impl_PushActivity_L0
        simp only [hl, Bool.false_eq_true, if_false, some_bind'])
    (a := mvS s i (x + k)) (s := (0, p, mvS s i (x + k), z, ())) rfl ⟨hs.mv i _, ⟨x + k, mvS_at hx, by omega⟩, fun e0 => by
      have e : x + (k : Int) = x := by omega
      rw [e, mvS_self hx]⟩ with ⟨o, e, bo, n, t, ⟨h1, h2, h3⟩, rfl⟩ | ⟨c, -, hc⟩
  · rcases tf (okV p t) with q | q
    · refine ⟨([], ([], ())), false, fun u => ?_, (fun hb => by cases hb), fun e0 => ?_⟩
      · unfold impl_PushActivity
        simp only [ScheduleOk_impl _ _ _ hp, h, notB_true, Bool.false_eq_true, if_false, hasActivity_eq, inB_iF hp hi, isTime_eq, hT, some_bind', later_at hs _ _ hx, ea]
        rw [← hz]
        simp only [e, some_bind', ScheduleOk_impl _ _ _ hp, q, notB_false, if_true]
      · rw [h3 e0, h] at q
        cases q
    · refine ⟨t, true, fun u => ?_, fun _ => ⟨q, h2⟩, fun _ => rfl⟩
      unfold impl_PushActivity
      simp only [ScheduleOk_impl _ _ _ hp, h, notB_true, Bool.false_eq_true, if_false, hasActivity_eq, inB_iF hp hi, isTime_eq, hT, some_bind', later_at hs _ _ hx, ea]
      rw [← hz]
      simp only [e, some_bind', ScheduleOk_impl _ _ _ hp, q, notB_true, Bool.false_eq_true, if_false]
  · exact absurd hc id
theorem span_leF {p : D_Project} {s : D_Schedule} (hp : Sm_Project 1099511627776 p) (h : okV p s = true) : 0 ≤ spanV p s ∧ spanV p s ≤ p.1 := by
  have hd : 1 ≤ p.1 := by
    have h0 := proj_of_form (form_of_ok h)
    unfold projB at h0
    simp only [Bool.and_eq_true] at h0
    exact (inB_iff.1 h0.1.1.1.1.1.1.1.1).1
  have key : ∀ (l : List Int) (m : Int), (∀ a ∈ l, endV p s a ≤ p.1) → 0 ≤ m → m ≤ p.1 → 0 ≤ l.foldl (fun m a => maxI m (endV p s a)) m ∧ l.foldl (fun m a => maxI m (endV p s a)) m ≤ p.1 := by
    intro l
    induction l with
    | nil => intro m _ h1 h2; exact ⟨h1, h2⟩
    | cons a l ih =>
      intro m hl h1 h2
      rw [List.foldl_cons]
      have := hl a (by simp)
      refine ih _ (fun b hb => hl b (by simp [hb])) ?_ ?_
      · unfold maxI; split <;> omega
      · unfold maxI; split <;> omega
  exact key _ 0 (fun a ha => by
    obtain ⟨i, rfl, hi⟩ := iotaI_mem ha
    exact end_leG hp h hi) (by omega) (by omega)
theorem slack_at {p : D_Project} {s : D_Schedule} (hp : Sm_Project 1099511627776 p) (h : okV p s = true) : 0 ≤ slackV p s ∧ slackV p s ≤ 60 := by
  obtain ⟨h1, h2⟩ := span_leF hp h
  have hd : p.1 ≤ 60 := by
    have h0 := proj_of_form (form_of_ok h)
    unfold projB at h0
    simp only [Bool.and_eq_true] at h0
    exact (inB_iff.1 h0.1.1.1.1.1.1.1.1).2
  unfold slackV
  rw [if_pos h, subZ64 (by omega) (by omega)]
  omega
theorem TotalFloat_V {p : D_Project} {s : D_Schedule} (hp : Sm_Project 1099511627776 p) (h : okV p s = true) {i : Nat} (hi : i < p.2.1.length) {x : Int} (hx : getI s.1 (i : Int) = some x) :
    ∃ v : Nat, (∀ u, impl_TotalFloat (p, s, (i : Int), u) () = some ((v : Int), ())) ∧ (v : Int) ≤ slackV p s ∧ ∃ s', (∀ u, impl_PushActivity (p, s, (i : Int), (v : Int), u) () = some ((s', true, ()), ())) ∧ okV p s' = true ∧ ∃ y, getI s'.1 (i : Int) = some y ∧ x ≤ y := by
  obtain ⟨l0, l1⟩ := slack_at hp h
  rcases one_loop (F := impl_TotalFloat_L0) (fun k (_ : Unit) => (p, s, (i : Int), (k : Int), ())) 60 (fun k _ => (k : Int) ≤ slackV p s ∧ ∃ s', (∀ u, impl_PushActivity (p, s, (i : Int), (k : Int), u) () = some ((s', true, ()), ())) ∧ okV p s' = true ∧ ∃ y, getI s'.1 (i : Int) = some y ∧ x ≤ y)
    (fun o => ∃ v : Nat, ((v : Int) ≤ slackV p s ∧ ∃ s', (∀ u, impl_PushActivity (p, s, (i : Int), (v : Int), u) () = some ((s', true, ()), ())) ∧ okV p s' = true ∧ ∃ y, getI s'.1 (i : Int) = some y ∧ x ≤ y) ∧ (o = Sum.inl (false, p, s, (i : Int), (v : Int), ()) ∨ o = Sum.inr (Sum.inl (true, (v : Int), p, s, (i : Int), ())))) (fun _ => False) (by omega)
    (fun k _ hk hI => by
      have a1 : addZ .i64 (k : Int) 1 = ((k + 1 : Nat) : Int) := by rw [addZ64 (by omega) (by omega)]; omega
      rcases tf (ltZ (k : Int) (slackV p s)) with q | q
      · refine .inr (.inl ⟨Sum.inl (false, p, s, (i : Int), (k : Int), ()), ?_, k, hI, .inl rfl⟩)
        unfold impl_TotalFloat_L0
        simp only [DeadlineSlack_impl _ _ _ hp, some_bind', q, Bool.false_eq_true, if_false]
      · have hq := ltZ_iff.1 q
        obtain ⟨s', b, e, hb, -⟩ := Push_V hp h hi hx (k := k + 1) (by omega)
        rcases tf b with rfl | rfl
        · refine .inr (.inl ⟨Sum.inr (Sum.inl (true, (k : Int), p, s, (i : Int), ())), ?_, k, hI, .inr rfl⟩)
          unfold impl_TotalFloat_L0
          simp only [DeadlineSlack_impl _ _ _ hp, some_bind', q, if_true, a1, e, notB_false]
        · refine .inl ⟨(), by omega, ?_, by omega, s', e, hb rfl⟩
          unfold impl_TotalFloat_L0
          simp only [DeadlineSlack_impl _ _ _ hp, some_bind', q, if_true, a1, e, notB_true, Bool.false_eq_true, if_false])
    (a := ()) (s := (p, s, (i : Int), 0, ())) rfl ⟨by omega, by
      obtain ⟨s', b, e, hb, h0⟩ := Push_V hp h hi hx (k := 0) (by omega)
      have := h0 rfl
      subst this
      exact ⟨s', e, hb rfl⟩⟩ with ⟨o, e, v, ⟨h1, h2⟩, ho⟩ | ⟨c, -, hc⟩
  · refine ⟨v, fun u => ?_, h1, h2⟩
    unfold impl_TotalFloat
    rcases ho with rfl | rfl
    · simp only [e, some_bind']
    · simp only [e, some_bind']
  · exact absurd hc id
def tfV (p : D_Project) (s : D_Schedule) (a : Int) : Int := match impl_TotalFloat (p, s, a, ()) () with | some v => v.1 | none => 0
theorem tfV_at {p : D_Project} {s : D_Schedule} (hp : Sm_Project 1099511627776 p) (h : okV p s = true) {i : Nat} (hi : i < p.2.1.length) {x : Int} (hx : getI s.1 (i : Int) = some x) :
    (∀ u, impl_TotalFloat (p, s, (i : Int), u) () = some (tfV p s (i : Int), ())) ∧ tfV p s (i : Int) ≤ slackV p s ∧ ∃ s', (∀ u, impl_PushActivity (p, s, (i : Int), tfV p s (i : Int), u) () = some ((s', true, ()), ())) ∧ okV p s' = true ∧ ∃ y, getI s'.1 (i : Int) = some y ∧ x ≤ y := by
  obtain ⟨v, e, h1, h2⟩ := TotalFloat_V hp h hi hx
  have : tfV p s (i : Int) = (v : Int) := by unfold tfV; rw [e]
  rw [this]
  exact ⟨e, h1, h2⟩
def leastF (p : D_Project) (s : D_Schedule) (m : Int) (a : Int) : Int := if ltZ (tfV p s a) m = true then tfV p s a else m
theorem leastF_min (p : D_Project) (s : D_Schedule) (m a : Int) : minI m (tfV p s a) = leastF p s m a := by
  unfold leastF minI
  rcases tf (ltZ (tfV p s a) m) with q | q
  · rw [q]
    rw [Bool.eq_false_iff, Ne, ltZ_iff] at q
    simp only [Bool.false_eq_true, if_false]
    split <;> omega
  · rw [q]
    rw [ltZ_iff] at q
    simp only [if_true]
    split <;> omega
def leastV (p : D_Project) (s : D_Schedule) : Int := (iotaI p.2.1.length).foldl (leastF p s) (tfV p s 0)
theorem Robustness_V {p : D_Project} {s : D_Schedule} (hp : Sm_Project 1099511627776 p) (h : okV p s = true) (u : Unit) : impl_Robustness (p, s, u) () = some (leastV p s, ()) := by
  have h6 := proj_acts (proj_of_form (form_of_ok h))
  have l0 := fun A : Type => (fold_loop (A := A) (F := impl_Robustness_L0) (fun i m => ((i : Int), (p.2.1.length : Int), p, s, m, ())) p.2.1.length (fun _ _ => True) (fun i m => leastF p s m (i : Int)) (fun m => Sum.inl (false, (p.2.1.length : Int), (p.2.1.length : Int), p, s, m, ())) (by omega)
    (fun i m hi _ => by
      obtain ⟨x, hx, -⟩ := start_of_ok hp h hi
      refine ⟨?_, trivial⟩
      unfold impl_Robustness_L0
      simp only [lt_yes hi, if_true, (tfV_at hp h hi hx).1, some_bind', leastF_min, idxN hi (Nat.le_refl _) (show p.2.1.length ≤ 1099511627776 by omega)])
    (fun m _ => by
      unfold impl_Robustness_L0
      simp only [lt_no, Bool.false_eq_true, if_false])
    (a := tfV p s 0) trivial).1
  have e1 := foldN_iota (fun (m x : Int) => leastF p s m x) p.2.1.length (tfV p s 0)
  rw [e1] at l0
  obtain ⟨x, hx, -⟩ := start_of_ok hp h (show 0 < p.2.1.length by omega)
  have e0 := (tfV_at hp h (show 0 < p.2.1.length by omega) hx).1
  have z : ((0 : Nat) : Int) = 0 := rfl
  simp only [z] at e0 l0
  unfold impl_Robustness leastV
  simp only [ScheduleOk_impl _ _ _ hp, h, notB_true, Bool.false_eq_true, if_false, some_bind', e0, lenI_eq, l0]
theorem Robustness_no {p : D_Project} {s : D_Schedule} (hp : Sm_Project 1099511627776 p) (h : okV p s = false) (u : Unit) : impl_Robustness (p, s, u) () = some (0, ()) := by
  unfold impl_Robustness
  simp only [ScheduleOk_impl _ _ _ hp, h, notB_false, if_true, some_bind']
theorem Distance_self {p : D_Project} {s : D_Schedule} (hp : Sm_Project 1099511627776 p) (h : formB p s = true) (u : Unit) : impl_ScheduleDistance (s, s, u) () = some (0, ()) := by
  obtain ⟨n1, n2⟩ := form_len h
  have h6 := proj_acts (proj_of_form h)
  rcases one_loop (F := impl_ScheduleDistance_L0) (fun i (_ : Unit) => ((i : Int), (s.1.length : Int), s.1, s, 0, ())) s.1.length (fun _ _ => True)
    (fun o => o = Sum.inl (false, (s.1.length : Int), (s.1.length : Int), s.1, s, 0, ())) (fun _ => False) (by omega)
    (fun i _ hi _ => by
      by_cases hi' : i < s.1.length
      · obtain ⟨t, m, md, g1, -, -, -, t0, t6, -⟩ := form_at hp h (show i < p.2.1.length by omega)
        have hT : inB t 0 60 = true := by rw [inB_iff]; omega
        have e0 : addZ .i64 0 (maxI (subZ .i64 t t) (subZ .i64 t t)) = 0 := by
          have : subZ .i64 t t = 0 := by rw [subZ64 (by omega) (by omega)]; omega
          rw [this]
          rfl
        refine .inl ⟨(), hi', ?_, trivial⟩
        unfold impl_ScheduleDistance_L0
        simp only [lt_yes hi', if_true, g1, some_bind', isTime_eq, hT, notB_true, Bool.false_eq_true, if_false, e0, idxN hi' (Nat.le_refl _) (show s.1.length ≤ 1099511627776 by omega)]
      · obtain rfl : i = s.1.length := by omega
        refine .inr (.inl ⟨_, ?_, rfl⟩)
        unfold impl_ScheduleDistance_L0
        simp only [lt_no, Bool.false_eq_true, if_false])
    (a := ()) (s := (0, (s.1.length : Int), s.1, s, 0, ())) rfl trivial with ⟨o, e, rfl⟩ | ⟨c, -, hc⟩
  · unfold impl_ScheduleDistance
    simp only [lenI_eq, eqZ_self, notB_true, Bool.false_eq_true, if_false, e, some_bind']
  · exact absurd hc id
end Go.Proofs.YtjhpeeapijjgjaaGreat
