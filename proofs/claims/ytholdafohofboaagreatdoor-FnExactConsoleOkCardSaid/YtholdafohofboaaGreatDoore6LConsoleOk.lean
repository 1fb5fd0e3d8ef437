/-
  Plain law: for all data within the bounds of the machine the law FnExactConsoleOk returns true.
-/
import Derived.Test.YtholdafohofboaaGreatDoore6LMore
namespace Go.Proofs.YtholdafohofboaaGreatDoor
open Go.Abs
set_option linter.unusedVariables false
set_option linter.unusedSimpArgs false

/-! what is measured bounds what the activities' names weigh -/
def wact : List D_Activity → Nat
  | [] => 0
  | a :: l => a.1.length + wact l
theorem wact_names : ∀ l : List D_Activity, wsum (fun s => 1 + s.length) (l.map fun a => a.1) = l.length + wact l
  | [] => rfl
  | a :: l => by
    simp only [List.map_cons, wsum, wact_names l, wact, List.length_cons]
    omega
theorem wt_Activity (x : D_Activity) (left : Int) (u : Unit) (h0 : 0 ≤ left) (h1 : left ≤ 1048576) (h : Sm_Activity maxLen x) : ∃ r, laws_szActivity (x, left, u) () = some (r, ()) ∧ (r < 0 ∨ (0 ≤ r ∧ r + (x.1.length : Int) ≤ left)) := by
  unfold laws_szActivity
  have hs : subZ .i64 left (lenI x.1) = left - (x.1.length : Int) := by
    have := h.1
    rw [maxLen_eq] at this
    rw [lenI_eq, subZ64 (by omega) (by omega)]
  simp only [hs]
  by_cases hl : left - (x.1.length : Int) < 0
  · exact ⟨-1, by simp only [neg_yes hl, if_true], .inl (by omega)⟩
  simp only [neg_no (show 0 ≤ left - (x.1.length : Int) by omega), Bool.false_eq_true, if_false]
  obtain ⟨r2, e2, c2⟩ := sz_ModeS x.2.2.1 (left - (x.1.length : Int)) () (by omega) (by omega) h.2.2.1
  simp only [e2, some_bind']
  rcases c2 with c2 | ⟨c2, d2, s2⟩
  · exact ⟨-1, by simp only [neg_yes c2, if_true], .inl (by omega)⟩
  simp only [neg_no c2, Bool.false_eq_true, if_false]
  exact ⟨r2, rfl, .inr ⟨c2, by omega⟩⟩
theorem wt_ActivityS (x : List D_Activity) (left : Int) (u : Unit) (h0 : 0 ≤ left) (h1 : left ≤ 1048576) (h : (x.length ≤ maxLen ∧ ∀ y ∈ x, Sm_Activity maxLen y)) : ∃ r, laws_szActivityS (x, left, u) () = some (r, ()) ∧ (r < 0 ∨ (0 ≤ r ∧ r + ((x.length + wact x : Nat) : Int) ≤ left)) := by
  unfold laws_szActivityS
  simp only [size_flat x left h0 h1 h.1]
  by_cases hl : left - (x.length : Int) < 0
  · exact ⟨-1, by simp only [neg_yes hl, if_true], .inl (by omega)⟩
  · simp only [neg_no (show 0 ≤ left - (x.length : Int) by omega), Bool.false_eq_true, if_false]
    have hx' : x.length ≤ 1048576 := by omega
    have key := fun A : Type => loopN_count (A := A) (F := laws_szActivityS_L0) x.length (fun i s => ∃ l : Int, s = ((i : Int), x, l, ()) ∧ 0 ≤ l ∧ l ≤ 1048576 ∧ l + (wact x : Int) ≤ left - (x.length : Int) + (wact (x.drop i) : Int))
      (fun o => o = .ret ((-1), ()) ∨ ∃ b i' l, o = .exit (.inl (b, i', x, l, ())) ∧ 0 ≤ l ∧ l + (wact x : Int) ≤ left - (x.length : Int)) (fun i s hi hI => by
        obtain ⟨l, rfl, k0, k1, hw⟩ := hI
        rcases Nat.lt_or_ge i x.length with hi2 | hi2
        · obtain ⟨r, e, hr⟩ := wt_Activity x[i] l () k0 k1 (h.2 _ (List.getElem_mem hi2))
          rcases hr with hr | ⟨r0, r1⟩
          · refine ⟨.ret ((-1), ()), ?_, .inl rfl⟩
            unfold laws_szActivityS_L0
            simp only [lenI_eq, lt_yes hi2, if_true, getI_lt hi2, some_bind', e, neg_yes hr]
          · refine ⟨.norm (((i + 1 : Nat) : Int), x, r, ()), ?_, hi2, r, rfl, r0, by omega, ?_⟩
            · unfold laws_szActivityS_L0
              simp only [lenI_eq, lt_yes hi2, if_true, getI_lt hi2, some_bind', e, neg_no r0, Bool.false_eq_true, if_false, idx_next hi2 hx']
            · rw [List.drop_eq_getElem_cons hi2] at hw
              simp only [wact] at hw
              omega
        · have : i = x.length := by omega
          subst this
          refine ⟨.exit (.inl (false, ((x.length : Nat) : Int), x, l, ())), ?_, .inr ⟨_, _, l, rfl, k0, ?_⟩⟩
          · unfold laws_szActivityS_L0
            simp only [lenI_eq, lt_no, Bool.false_eq_true, if_false]
          · rw [List.drop_length] at hw
            simp only [wact] at hw
            omega) (s := (0, x, left - (x.length : Int), ())) ⟨_, rfl, by omega, by omega, by rw [List.drop_zero]; omega⟩ (by unfold big; omega)
    obtain ⟨o, e, hR⟩ := key (Int × ((List D_Activity) × (Int × Unit)))
    rcases hR with rfl | ⟨b, i', l, rfl, k0, hw⟩
    · exact ⟨-1, by simp only [e, some_bind'], .inl (by omega)⟩
    · exact ⟨l, by simp only [e, some_bind'], .inr ⟨k0, by omega⟩⟩
theorem wt_Console (x : D_Console) {r : Int} (h : Sm_Console maxLen x) (e : laws_szConsole (x, 1048576, ()) () = some (r, ())) (hr : 0 ≤ r) : wsum (fun s => 1 + s.length) (namesL x.1) ≤ 1048576 := by
  obtain ⟨r1, e1, c1⟩ := wt_ActivityS x.1.2.1 1048576 () (by omega) (by omega) h.1.2.1
  rcases c1 with c1 | ⟨c1, d1⟩
  · have en : ltZ (-1) 0 = true := rfl
    unfold laws_szConsole laws_szProject at e
    simp only [e1, some_bind', neg_yes c1, if_true, en, Option.some.injEq, Prod.mk.injEq, and_true] at e
    omega
  · have := wact_names x.1.2.1
    unfold namesL
    omega
/-! one more activity -/
theorem idxOf_old {E : Type} {q : E → Bool} {l : List E} (x : E) (h : l.any q = true) : idxOf q (l ++ [x]) = idxOf q l := by
  unfold idxOf
  cases hf : l.findIdx? q with
  | some i => rw [List.findIdx?_append, hf]; rfl
  | none =>
    rw [List.findIdx?_eq_none_iff] at hf
    obtain ⟨y, hy, hq⟩ := List.any_eq_true.1 h
    rw [hf y hy] at hq
    cases hq
theorem idxOf_new {E : Type} {q : E → Bool} {l : List E} {x : E} (h : l.any q = false) (hx : q x = true) : idxOf q (l ++ [x]) = (l.length : Int) := by
  have hf : l.findIdx? q = none := by
    rw [List.findIdx?_eq_none_iff]
    intro y hy
    rcases tf (q y) with h1 | h1
    · exact h1
    · have : l.any q = true := List.any_eq_true.2 ⟨y, hy, h1⟩
      rw [h] at this
      cases this
  unfold idxOf
  rw [List.findIdx?_append, hf]
  simp [List.findIdx?_cons, hx]
theorem grow_act {p : D_Project} {a b : List UInt8} (ha : nameB a = true) (hb : nameB b = true) (fa : takenB p a = false) (fb : takenB p b = false) (i : Nat) : actI (growV p a) i = actI (growV p b) i := by
  unfold actI growV
  simp only
  rcases Nat.lt_or_ge i p.2.1.length with hi | hi
  · rw [List.getElem?_append_left hi, List.getElem?_append_left hi, List.getElem?_eq_getElem hi]
    simp only
    have hany : p.2.1.any (fun b => eqS b.1 p.2.1[i].1) = true := List.any_eq_true.2 ⟨_, List.getElem_mem hi, eqS_self _⟩
    rw [idxOf_old _ hany, idxOf_old _ hany]
  · rcases Nat.lt_or_ge p.2.1.length i with hi2 | hi2
    · rw [List.getElem?_eq_none (by simp only [List.length_append, List.length_singleton]; omega), List.getElem?_eq_none (by simp only [List.length_append, List.length_singleton]; omega)]
    · have : i = p.2.1.length := by omega
      subst this
      rw [List.getElem?_append_right (Nat.le_refl _), List.getElem?_append_right (Nat.le_refl _), Nat.sub_self]
      show (actB _ _ _ && eqZ (idxOf (fun c : D_Activity => eqS c.1 a) _) _) = (actB _ _ _ && eqZ (idxOf (fun c : D_Activity => eqS c.1 b) _) _)
      rw [idxOf_new (q := fun c : D_Activity => eqS c.1 a) fa (eqS_self _), idxOf_new (q := fun c : D_Activity => eqS c.1 b) fb (eqS_self _)]
      unfold actB
      simp only [ha, hb]
theorem grow_eq {p : D_Project} {a b : List UInt8} (ha : nameB a = true) (hb : nameB b = true) (fa : takenB p a = false) (fb : takenB p b = false) : projB (growV p a) = projB (growV p b) := by
  have h : (List.range (p.2.1.length + 1)).all (actI (growV p a)) = (List.range (p.2.1.length + 1)).all (actI (growV p b)) := by
    rw [Bool.eq_iff_iff, List.all_eq_true, List.all_eq_true]
    exact ⟨fun k i hi => by rw [← grow_act ha hb fa fb i]; exact k i hi, fun k i hi => by rw [grow_act ha hb fa fb i]; exact k i hi⟩
  have l1 : (growV p a).2.1.length = p.2.1.length + 1 := by unfold growV; simp
  have l2 : (growV p b).2.1.length = p.2.1.length + 1 := by unfold growV; simp
  have hl : lenI (growV p a).2.1 = lenI (growV p b).2.1 := by rw [lenI_eq, lenI_eq, l1, l2]
  unfold projB
  rw [l1, l2, h, hl]
  rfl
theorem grow_many {p : D_Project} (a : List UInt8) (h : 6 ≤ p.2.1.length) : projB (growV p a) = false := by
  have l1 : (growV p a).2.1.length = p.2.1.length + 1 := by unfold growV; simp
  have : inB (lenI (growV p a).2.1) 1 6 = false := by
    rw [Bool.eq_false_iff, Ne, inB_iff, lenI_eq, l1]
    omega
  unfold projB
  rw [this]
  simp
theorem name_digit {c : UInt8} (hc : c = 97 ∨ c = 122) {k : Nat} (hk : k ≤ 5) : nameB (c :: Lib.decDigits k) = true := by
  rw [dec_small (by omega)]
  have : k = 0 ∨ k = 1 ∨ k = 2 ∨ k = 3 ∨ k = 4 ∨ k = 5 := by omega
  rcases hc with rfl | rfl <;> rcases this with rfl | rfl | rfl | rfl | rfl | rfl <;> decide
theorem sm_grow {p : D_Project} {nm : List UInt8} (hp : Sm_Project 1048576 p) (hn : nm.length ≤ 1048576) : Sm_Project 1099511627776 (growV p nm) := by
  have h1 := smm_Project (B' := 1099511627776) (by omega) p hp
  refine ⟨trivial, ⟨?_, fun y hy => ?_⟩, h1.2.2⟩
  · show (p.2.1 ++ [_]).length ≤ _
    have := hp.2.1.1
    simp only [List.length_append, List.length_singleton]
    omega
  · rcases List.mem_append.1 (show y ∈ p.2.1 ++ [_] from hy) with hy | hy
    · exact h1.2.1.2 y hy
    · rw [List.mem_singleton.1 hy]
      have h3 := hp.2.2.2.1.1
      have h4 := hp.2.2.2.2.1.1
      refine ⟨?_, trivial, ⟨?_, fun m hm => ?_⟩, trivial⟩
      · show nm.length ≤ _
        omega
      · show [_].length ≤ _
        simp
      · rw [List.mem_singleton.1 hm]
        exact ⟨trivial, ⟨by show (List.replicate p.2.2.2.1.length (0 : Int)).length ≤ _; rw [List.length_replicate]; omega, fun _ _ => trivial⟩, ⟨by show (List.replicate p.2.2.2.2.1.length (0 : Int)).length ≤ _; rw [List.length_replicate]; omega, fun _ _ => trivial⟩, trivial⟩
theorem foldl_name_len (acts : List D_Activity) : ∀ (i : Nat) (nm : List UInt8), nm.length ≤ 10 → (outF acts i nm).length ≤ 10 := by
  induction acts with
  | nil => intro i nm h; exact h
  | cons a acts ih =>
    intro i nm h
    show (outF acts i (inF i nm a)).length ≤ 10
    refine ih i _ ?_
    rcases tf (eqS a.1 nm) with h1 | h1
    · rw [inF_no h1]
      exact h
    · rw [inF_yes h1, List.length_cons]
      have := fmtV_len ((i : Int) + 1)
      omega
theorem more_len (p : D_Project) : (moreName p).length ≤ 10 := by
  unfold moreName
  have key : ∀ (k i : Nat) (nm : List UInt8), nm.length ≤ 10 → (foldN (outF p.2.1) k i nm).length ≤ 10 := by
    intro k
    induction k with
    | zero => intro i nm h; exact h
    | succ k ih => intro i nm h; exact ih (i + 1) _ (foldl_name_len p.2.1 i nm h)
  exact key _ _ _ (by simp)
theorem nmR_len (r : Nat) : (nmR r).length ≤ 10 := by
  cases r with
  | zero => simp [nmR]
  | succ r =>
    have := fmtV_len (nnI r)
    simp only [nmR, List.length_cons]
    omega
theorem couldGrow_eq (p : D_Project) (u : Unit) (hp : Sm_Project 1048576 p) (hw : wsum (fun s => 1 + s.length) (namesL p) ≤ 1048576) : impl_couldGrow (p, u) () = some (projB (growV p (moreName p)), ()) := by
  have hn : p.2.1.length ≤ 1048576 := hp.2.1.1
  have hq : ∃ q, (∀ u, impl_freeName (p, u) () = some (nmR q, ())) ∧ projB (growV p (nmR q)) = projB (growV p (moreName p)) := by
    rcases Nat.lt_or_ge p.2.1.length 6 with h6 | h6
    · obtain ⟨k, hk, hf⟩ := some_free_few p rfl (by omega) 97
      have ek : nmR (k + 1) = 97 :: Lib.decDigits k := by
        show 97 :: fmtV (nnI k) = _
        unfold nnI
        rw [if_pos (by omega), fmt_nat (by omega)]
      obtain ⟨q, hq, hqf, e⟩ := freeName_ex p 6 (by unfold bigR; omega) (by omega) ⟨k + 1, by omega, by rw [ek]; exact hf⟩
      refine ⟨q, e, ?_⟩
      obtain ⟨m, hm, em, fm⟩ := more_free p (by omega)
      have hqn : nameB (nmR q) = true := by
        cases q with
        | zero => decide
        | succ q =>
          have eq : nmR (q + 1) = 97 :: Lib.decDigits q := by
            show 97 :: fmtV (nnI q) = _
            unfold nnI
            rw [if_pos (by omega), fmt_nat (by omega)]
          rw [eq]
          exact name_digit (.inl rfl) (by omega)
      rw [em]
      exact grow_eq hqn (name_digit (.inr rfl) (by omega)) hqf fm
    · obtain ⟨q, -, -, e⟩ := freeName_ex p bigR (Nat.le_refl _) (by omega) (some_free p hw)
      exact ⟨q, e, by rw [grow_many _ h6, grow_many _ h6]⟩
  obtain ⟨q, e, hg⟩ := hq
  have z1 : zerosI (p.2.2.2.1.length : Int) (0 : Int) = some (List.replicate p.2.2.2.1.length 0) := zerosI_nat (by have := hp.2.2.2.1.1; rw [room_eq]; omega)
  have z2 : zerosI (p.2.2.2.2.1.length : Int) (0 : Int) = some (List.replicate p.2.2.2.2.1.length 0) := zerosI_nat (by have := hp.2.2.2.2.1.1; rw [room_eq]; omega)
  have ad : ∀ x : D_Activity, addI p.2.1 [x] = some (p.2.1 ++ [x]) := fun x => addI_ok (by rw [room_eq]; simp only [List.length_singleton]; omega)
  have hl := nmR_len q
  have hP := ProjectOk_impl (growV p (nmR q)) () (sm_grow hp (by omega))
  unfold growV at hP
  unfold impl_couldGrow
  simp only [copied_eq _ _ hp, some_bind', lenI_eq, eqZ_self, if_true, z1, z2, e, ad]
  rw [hP]
  show some (projB (growV p (nmR q)), ()) = _
  rw [hg]
theorem plain_FnExactConsoleOk (d : D_Console) (u : Unit) (hd : Sm_Console maxLen d) : laws_FnExactConsoleOk (d, u) () = some (true, ()) := by
  unfold laws_FnExactConsoleOk
  obtain ⟨r2, e2, c2⟩ := sz_Console d 1048576 () (by omega) (by omega) hd
  simp only [e2, some_bind']
  rcases c2 with c2 | ⟨c2, d2, sd⟩
  · simp only [neg_yes c2, if_true]
  have sd' := smm_Console (B' := 1099511627776) (by omega) d sd
  have hw := wt_Console d hd e2 c2
  have hml := more_len d.1
  have hs : spec_ConsoleOk (d, ()) () = impl_ConsoleOk (d, ()) () ∧ ∃ b, impl_ConsoleOk (d, ()) () = some (b, ()) := by
    unfold spec_ConsoleOk impl_ConsoleOk
    simp only [fmt_in, fmt_within, some_bind', ProjectOk_spec _ _ sd'.1, ProjectOk_impl _ _ sd'.1, More_spec _ _ sd.1, couldGrow_eq _ _ sd.1 hw, ProjectOk_spec _ _ (sm_grow sd.1 (show (moreName d.1).length ≤ 1048576 by omega))]
    rcases tf (inB d.2.2.1 1 60) with h1 | h1 <;> rcases tf (projB d.1) with h2 | h2 <;> simp [h1, h2]
  obtain ⟨hs1, b, hs2⟩ := hs
  simp only [neg_no c2, Bool.false_eq_true, if_false, to_Console _ _ sd, some_bind', hs1, hs2, eqB_self, notB_true, eq_Console _ _ sd']
theorem L_FnExactConsoleOk (x : Ty.dens H_laws_FnExactConsoleOk.ps) (h : Ty.fits H_laws_FnExactConsoleOk.ps x) : laws_FnExactConsoleOk x () = some (true, ()) := by
  obtain ⟨a, u⟩ := x
  exact plain_FnExactConsoleOk a u (smf_Console _ h.1)
end Go.Proofs.YtholdafohofboaaGreatDoor
