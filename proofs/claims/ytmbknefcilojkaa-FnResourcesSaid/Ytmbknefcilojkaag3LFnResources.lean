/-
  Plain laws: what the law FnResources reaches; for every code it returns true. Condition: no list is longer than 2 to the 40.
-/
import Derived.Test.Ytmbknefcilojkaag3LGen5
import Derived.Test.Ytmbknefcilojkaag3LSelf
import Derived.Test.Ytmbknefcilojkaag3LCopy
import Derived.Test.Ytmbknefcilojkaag3LHas
namespace Go.Proofs.Ytmbknefcilojkaa
open Go.Abs
set_option linter.unusedVariables false
set_option linter.unusedSimpArgs false

theorem IndexFunc_Mode (l : List D_Mode) (f : (D_Mode × Unit) → Option Bool) (q : D_Mode → Bool) (u : Unit) (hl : l.length ≤ 1099511627776) (hf : ∀ a ∈ l, f (a, ()) = some (q a)) : slices_IndexFunc_impl_Mode_impl_Mode (l, f, u) () = some (idxOf q l, ()) := by
  unfold slices_IndexFunc_impl_Mode_impl_Mode idxOf
  simp only [lenI_eq]
  rw [findS (F := slices_IndexFunc_impl_Mode_impl_Mode_L0) (fun i => ((i : Int), (l.length : Int), f, l, ())) (0, (l.length : Int), f, l, ()) l q (Sum.inl (false, (l.length : Int), (l.length : Int), f, l, ())) (fun i => ((i : Int), ())) rfl hl
    (fun i hi => by
      unfold slices_IndexFunc_impl_Mode_impl_Mode_L0
      simp only [lt_yes hi, if_true, getI_lt hi, some_bind', hf _ (List.getElem_mem hi), idxN hi hl (Nat.le_refl _)]
      rcases tf (q l[i]) with h | h <;> simp [h])
    (by unfold slices_IndexFunc_impl_Mode_impl_Mode_L0; simp only [lt_no, Bool.false_eq_true, if_false])]
  cases l.findIdx? q <;> rfl
/-- does an activity use the first resource? -/
def useM (m : D_Mode) : Bool := match m.2.1[0]? with | some n => ltZ 0 n | none => false
def useA (a : D_Activity) : Bool := a.2.2.1.any useM
theorem Users_G {p : D_Project} (hP : GenP 6 p) (u : Unit) : impl_Users (p, 0, u) () = some ((iotaI p.2.1.length).filter (fun i => match getI p.2.1 i with | some a => useA a | none => false), ()) := by
  have hp : Sm_Project 1099511627776 p := hP.sm (by omega) (by omega)
  have hal := hP.al
  have hrl := hP.rl
  have hin : inB 0 0 (subZ .i64 (p.2.2.2.1.length : Int) 1) = true := by
    rw [inB_iff, subZ64 (by omega) (by omega)]
    omega
  have l0 := fun A : Type => fold_loop (A := A) (F := impl_Users_L0) (fun i (out : List Int) => ((i : Int), (p.2.1.length : Int), p.2.1, (0 : Int), out, ())) p.2.1.length (fun i out => out.length ≤ i)
    (fun i out => (fun (out : List Int) (x : Int) => if (match getI p.2.1 x with | some a => useA a | none => false) = true then out ++ [x] else out) out (i : Int)) (fun out => Sum.inl (false, (p.2.1.length : Int), (p.2.1.length : Int), p.2.1, (0 : Int), out, ())) (by omega)
    (fun i out hi ho => by
      have hA := hP.a i hi
      have hml := hA.ml
      have e1 := IndexFunc_Mode p.2.1[i].2.2.1 (fun v7 => (Option.bind (impl_Users_1 v7 (0, ())) fun v8 => (some v8.1))) useM () (by omega) (fun m hm => by
        have hM := hA.m m hm
        have hl : 0 < m.2.1.length := by rw [hM.ul]; omega
        have g0 : getI m.2.1 0 = some m.2.1[0] := getI_lt (i := 0) hl
        unfold impl_Users_1 useM
        simp only [g0, some_bind', List.getElem?_eq_getElem hl])
      have ha : addI out [(i : Int)] = some (out ++ [(i : Int)]) := addI_ok (by rw [room_eq]; simp; omega)
      have hany := idxOf_any useM p.2.1[i].2.2.1
      constructor
      · unfold impl_Users_L0 slices_ContainsFunc_impl_Mode_impl_Mode
        simp only [lt_yes hi, if_true, getI_lt hi, some_bind', e1, hany]
        unfold useA
        rcases tf (p.2.1[i].2.2.1.any useM) with h | h <;> simp [-Int.natCast_add, h, ha, idxN hi (Nat.le_refl _) (show p.2.1.length ≤ 1099511627776 by omega)]
      · show (if (match getI p.2.1 (i : Int) with | some a => useA a | none => false) = true then out ++ [(i : Int)] else out).length ≤ i + 1
        generalize (match getI p.2.1 (i : Int) with | some a => useA a | none => false) = q
        cases q <;> simp <;> omega)
    (fun out ho => by
      unfold impl_Users_L0
      simp only [lt_no, Bool.false_eq_true, if_false])
    (a := []) (by simp)
  have l1 := fun A : Type => (l0 A).1
  have e0 : (((0 : Nat) : Int), (p.2.1.length : Int), p.2.1, (0 : Int), ([] : List Int), ()) = ((0 : Int), (p.2.1.length : Int), p.2.1, (0 : Int), ([] : List Int), ()) := rfl
  rw [e0, foldN_iota (fun (out : List Int) (x : Int) => if (match getI p.2.1 x with | some a => useA a | none => false) = true then out ++ [x] else out)] at l1
  unfold impl_Users impl_Project_hasResource
  simp only [ProjectOk_impl _ _ hp, hP.ok (Nat.le_refl _), within_eq, lenI_eq, hin, notB_true, Bool.false_eq_true, if_false, some_bind', l1, foldl_filter, List.nil_append]
theorem projB_dead {p : D_Project} {t : Int} (h : projB p = true) (ht : inB t 1 60 = true) : projB (t, p.2) = true := by
  unfold projB at h ⊢
  simp only [Bool.and_eq_true] at h ⊢
  obtain ⟨⟨⟨⟨⟨⟨⟨⟨h1, h2⟩, h3⟩, h4⟩, h5⟩, h6⟩, h7⟩, h8⟩, h9⟩ := h
  exact ⟨⟨⟨⟨⟨⟨⟨⟨ht, h2⟩, h3⟩, h4⟩, h5⟩, h6⟩, h7⟩, h8⟩, h9⟩
theorem has_iota (n : Nat) (q : Int → Bool) (i : Nat) (hi : i < n) : hasB ((iotaI n).filter q) (i : Int) = q (i : Int) := by
  unfold hasB
  rw [Bool.eq_iff_iff, List.any_eq_true]
  constructor
  · rintro ⟨x, hx, e⟩
    obtain ⟨h1, h2⟩ := List.mem_filter.1 hx
    rw [eqZ_iff] at e
    rw [← e] at *
    exact h2
  · intro h
    exact ⟨(i : Int), List.mem_filter.2 ⟨List.mem_map.2 ⟨i, List.mem_range.2 hi, rfl⟩, h⟩, eqZ_self _⟩
def use0 (m : D_Mode) : Int := (m.2.1[0]?).getD 0
def mostU (a : Int) (m : D_Mode) : Int := if ltZ a (use0 m) = true then use0 m else a
theorem most_any : ∀ (l : List D_Mode) (a : Int), (∀ m ∈ l, 0 < m.2.1.length) → ltZ 0 (l.foldl mostU a) = (ltZ 0 a || l.any useM)
  | [], a, _ => by simp
  | m :: l, a, h => by
    rw [List.foldl_cons, most_any l _ (fun m hm => h m (by simp [hm])), List.any_cons, ← Bool.or_assoc]
    congr 1
    have hl := h m (by simp)
    have e1 : use0 m = m.2.1[0] := by unfold use0; rw [List.getElem?_eq_getElem hl]; rfl
    have e2 : useM m = ltZ 0 m.2.1[0] := by unfold useM; rw [List.getElem?_eq_getElem hl]
    unfold mostU
    rw [e1, e2, Bool.eq_iff_iff, Bool.or_eq_true]
    split
    · rename_i h1
      simp only [ltZ_iff] at h1 ⊢
      omega
    · rename_i h1
      simp only [ltZ_iff] at h1 ⊢
      omega
theorem plain_FnResources (b : List Int) : laws_FnResources (b, ()) () = some (true, ()) := by
  unfold laws_FnResources
  simp only [lenI_eq]
  rcases tf (ltZ 1048576 (b.length : Int)) with hb | hb
  · have hb' : b.length ≤ 1048576 := by
      rw [Bool.eq_false_iff, Ne, ltZ_iff] at hb
      omega
    obtain ⟨p, hP3, ep⟩ := MakeProject_eq b hb'
    have hP := hP3.mono (show 3 ≤ 6 by omega)
    have hp : Sm_Project 1099511627776 p := hP.sm (by omega) (by omega)
    have hp2 : Sm_Project 1048576 p := hP.sm (by omega) (by omega)
    have hok := hP.ok (Nat.le_refl _)
    have hal := hP.al
    have hrl := hP.rl
    have hok9 : projB (9, p.2) = true := projB_dead hok (by decide)
    have hp9 : Sm_Project 1099511627776 (9, p.2) := hp
    have ew : impl_WithDeadline (p, 9, ()) () = some (((9, p.2), true, ()), ()) := by
      unfold impl_WithDeadline
      simp only [copied_eq _ _ hp2, ProjectOk_impl _ _ hp, ProjectOk_impl _ _ hp9, some_bind', hok, hok9, notB_true, Bool.false_eq_true, if_false]
    simp only [hb, Bool.false_eq_true, if_false, ep, Users_G hP, ew, some_bind']
    generalize hU : (iotaI p.2.1.length).filter (fun i => match getI p.2.1 i with | some a => useA a | none => false) = U
    have hUl : U.length ≤ 1099511627776 := by
      rw [← hU]
      have := List.length_filter_le (fun i => match getI p.2.1 i with | some a => useA a | none => false) (iotaI p.2.1.length)
      rw [iotaI_length] at this
      omega
    have l1 := fun A : Type => allIS (A := A) (F := laws_FnResources_L1) (fun i => ((i : Int), (p.2.1.length : Int), U, true, (9, p.2), p, ())) (0, (p.2.1.length : Int), U, true, (9, p.2), p, ()) p.2.1.length (fun _ => true) (Sum.inl (false, (p.2.1.length : Int), (p.2.1.length : Int), U, true, (9, p.2), p, ())) (false, ()) rfl (by omega)
      (fun i hi => by
        have hA := hP.a i hi
        have hml := hA.ml
        have l0 := fun A : Type => (fold_list (A := A) (F := laws_FnResources_L0) (fun j (n : Int) => ((j : Int), (p.2.1[i].2.2.1.length : Int), p.2.1[i].2.2.1, (i : Int), n, (i : Int), (p.2.1.length : Int), U, true, ((9, p.2) : D_Project), p, ())) p.2.1[i].2.2.1 (fun _ _ => True) mostU
          (fun n => Sum.inl (false, (p.2.1[i].2.2.1.length : Int), (p.2.1[i].2.2.1.length : Int), p.2.1[i].2.2.1, (i : Int), n, (i : Int), (p.2.1.length : Int), U, true, ((9, p.2) : D_Project), p, ())) (by omega)
          (fun j n hj _ => by
            have hM := hA.m _ (List.getElem_mem hj)
            have hl : 0 < p.2.1[i].2.2.1[j].2.1.length := by rw [hM.ul]; omega
            have g0 : getI p.2.1[i].2.2.1[j].2.1 0 = some p.2.1[i].2.2.1[j].2.1[0] := getI_lt (i := 0) hl
            have e1 : use0 p.2.1[i].2.2.1[j] = p.2.1[i].2.2.1[j].2.1[0] := by unfold use0; rw [List.getElem?_eq_getElem hl]; rfl
            refine ⟨?_, trivial⟩
            unfold laws_FnResources_L0 mostU
            rw [e1]
            simp only [lt_yes hj, if_true, getI_lt hj, some_bind', g0]
            rcases tf (ltZ n p.2.1[i].2.2.1[j].2.1[0]) with h1 | h1 <;> simp [-Int.natCast_add, h1, g0, idxN hj (Nat.le_refl _) (show p.2.1[i].2.2.1.length ≤ 1099511627776 by omega)])
          (fun n _ => by
            unfold laws_FnResources_L0
            simp only [lt_no, Bool.false_eq_true, if_false])
          (a := 0) (s := (0, (p.2.1[i].2.2.1.length : Int), p.2.1[i].2.2.1, (i : Int), 0, (i : Int), (p.2.1.length : Int), U, true, ((9, p.2) : D_Project), p, ())) rfl trivial).1
        have hm := most_any p.2.1[i].2.2.1 0 (fun m hm => by rw [(hA.m m hm).ul]; omega)
        have z : ltZ 0 0 = false := rfl
        rw [z, Bool.false_or] at hm
        have hhas : hasB U (i : Int) = useA p.2.1[i] := by
          rw [← hU, has_iota _ _ i hi, getI_lt hi]
        unfold laws_FnResources_L1
        simp only [lt_yes hi, if_true, getI_lt hi, some_bind', lenI_eq, l0, SetHas_impl _ _ _ hUl, hhas, hm]
        unfold useA
        simp only [eqB_self, notB_true, Bool.false_eq_true, if_false, idxN hi (Nat.le_refl _) (show p.2.1.length ≤ 1099511627776 by omega)])
      (by unfold laws_FnResources_L1; simp only [lt_no, Bool.false_eq_true, if_false])
    have g0 : getI p.2.1 0 = some p.2.1[0] := getI_lt (i := 0) (by omega)
    have g1 : getI p.2.2.2.1 0 = some p.2.2.2.1[0] := getI_lt (i := 0) (by omega)
    have ha0 := hp.2.1.2 _ (List.getElem_mem (show 0 < p.2.1.length by omega))
    have hr0 := hp.2.2.2.1.2 _ (List.getElem_mem (show 0 < p.2.2.2.1.length by omega))
    have hlt : ltZ 0 (p.2.1.length : Int) = true := by rw [ltZ_iff]; omega
    have hG := (hP.r _ (List.getElem_mem (show 0 < p.2.2.2.1.length by omega))).ok
    have hin : inB 0 0 (subZ .i64 (p.2.2.2.1.length : Int) 1) = true := by
      rw [inB_iff, subZ64 (by omega) (by omega)]
      omega
    have hpe : impl_ProjectEqual (p, ((p.1, p.2) : D_Project), ()) () = some (true, ()) := ProjectEqual_self p () hp
    have him : impl_IsMachine (p, 0, ()) () = some (ltZ 0 (p.2.2.2.1[0].2.1.length : Int), ()) := by
      unfold impl_IsMachine impl_Project_hasResource
      simp only [within_eq, lenI_eq, hin, some_bind', if_true, g1]
    simp only [l1, all_true, if_true, some_bind', hlt, hpe, g1, ResourceOk_impl _ _ hr0, hG, him, lenI_eq, eqB_self, g0, ActivityEqual_self _ _ ha0]
  · simp only [hb, if_true]
theorem L_FnResources (x : Ty.dens H_laws_FnResources.ps) (h : Ty.fits H_laws_FnResources.ps x) : laws_FnResources x () = some (true, ()) := by
  obtain ⟨b, u⟩ := x
  exact plain_FnResources b
end Go.Proofs.Ytmbknefcilojkaa
