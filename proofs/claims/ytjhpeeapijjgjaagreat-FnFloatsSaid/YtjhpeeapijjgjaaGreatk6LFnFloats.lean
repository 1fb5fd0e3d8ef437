/-
  Plain laws: for every code the law FnFloats returns true.
-/
import Derived.Test.YtjhpeeapijjgjaaGreatk6LFloatV
namespace Go.Proofs.YtjhpeeapijjgjaaGreat
open Go.Abs
set_option linter.unusedVariables false
set_option linter.unusedSimpArgs false

theorem plain_FnFloats (c : List Int) : laws_FnFloats (c, ()) () = some (true, ()) := by
  unfold laws_FnFloats
  simp only [lenI_eq]
  rcases tf (ltZ 1048576 (c.length : Int)) with hc | hc
  · have hc' : c.length ≤ 1048576 := by
      rw [Bool.eq_false_iff, Ne, ltZ_iff] at hc
      omega
    obtain ⟨p, s, hP3, hf, ep⟩ := MakeGood_eq c hc'
    have hP := hP3.mono (show 3 ≤ 6 by omega)
    have hal := hP3.al
    have hp : Sm_Project 1099511627776 p := hP.sm (by omega) (by omega)
    have hok := hP.ok (Nat.le_refl _)
    rcases tf (okV p s) with h | h
    · have hs0 : slackV p s = 0 := by unfold slackV; rw [h]; rfl
      have e0 : eqZ (0 : Int) 0 = true := rfl
      have e1 : eqZ (([] : List Int).length : Int) 0 = true := rfl
      simp only [hc, Bool.false_eq_true, if_false, ep, some_bind', FreeFloats_no hp h, ScheduleOk_impl _ _ _ hp, h, notB_false, if_true, e1, Robustness_no hp h, e0, DeadlineSlack_impl _ _ _ hp, hs0, ScheduleForm_impl _ _ _ hp, hf]
    · obtain ⟨w, ew, hwl, hwg⟩ := FreeFloats_V hp h ()
      have hw1 : eqZ (w.length : Int) (p.2.1.length : Int) = true := by rw [eqZ_iff, hwl]
      obtain ⟨x0, hx0, -⟩ := start_of_ok hp h (show 0 < p.2.1.length by omega)
      have et0 := (tfV_at hp h (show 0 < p.2.1.length by omega) hx0).1
      have z : ((0 : Nat) : Int) = 0 := rfl
      simp only [z] at et0
      obtain ⟨sl0, sl1⟩ := slack_at hp h
      obtain ⟨st, md, rfl⟩ : ∃ st md, s = (st, (md, ())) := ⟨s.1, s.2.1, rfl⟩
      obtain ⟨n1, n2⟩ := form_len hf
      simp only at n1 n2
      have l0 := fun A : Type => (fold_loop (A := A) (F := laws_FnFloats_L0) (fun i m => ((i : Int), (p.2.1.length : Int), w, m, p, (st, md, ()), ())) p.2.1.length (fun _ _ => True) (fun i m => leastF p (st, md, ()) m (i : Int)) (fun m => Sum.inl (false, (p.2.1.length : Int), (p.2.1.length : Int), w, m, p, (st, md, ()), ())) (by omega)
        (fun i m hi _ => by
          obtain ⟨x, hx, x0, x6⟩ := start_of_ok hp h hi
          have hx' : getI st (i : Int) = some x := hx
          obtain ⟨f1, f2, f3, f4, f5⟩ := ffV_at hp h hi hx
          obtain ⟨t1, t2, s', t3, t4, y, t5, t6⟩ := tfV_at hp h hi hx
          have g := hwg i hi
          have an := addNilS st (by omega)
          generalize hF : ffV p (st, md, ()) i = F at g f1 f2 f3 f4 f5
          have a1 : addZ .i64 x F = x + F := addZ64 (by omega) (by omega)
          have a2 : addZ .i64 (x + F) 1 = x + F + 1 := addZ64 (by omega) (by omega)
          have gs : getI (setI st (i : Int) (fun _ => x + F)) (i : Int) = some (x + F) := getI_setI_eq hx'
          have ss : setI (setI st (i : Int) (fun _ => x + F)) (i : Int) (fun _ => x + F + 1) = setI st (i : Int) (fun _ => x + F + 1) := by rw [setI_setI]
          have o1 : okV p (setI st (i : Int) (fun _ => x + F), md, ()) = true := f2
          have o2 : okV p (setI st (i : Int) (fun _ => x + F + 1), md, ()) = false := f3
          have q1 : eqZ F F = true := eqZ_self _
          have q2 : ltZ (slackV p (st, md, ())) (tfV p (st, md, ()) (i : Int)) = false := by rw [Bool.eq_false_iff, Ne, ltZ_iff]; omega
          have q3 : ltZ y x = false := by rw [Bool.eq_false_iff, Ne, ltZ_iff]; omega
          refine ⟨?_, trivial⟩
          unfold laws_FnFloats_L0 leastF
          simp only [lt_yes hi, if_true, an, some_bind', hx', g, a1, t1, t3, ScheduleOk_impl _ _ _ hp, o1, notB_true, Bool.false_eq_true, if_false, f1, q1, DeadlineSlack_impl _ _ _ hp, q2, t4, t5, q3, gs, a2, ss, o2]
          rcases tf (ltZ (tfV p (st, md, ()) (i : Int)) m) with q4 | q4
          · simp only [q4, Bool.false_eq_true, if_false, some_bind', idxN hi (Nat.le_refl _) (show p.2.1.length ≤ 1099511627776 by omega)]
          · simp only [q4, if_true, some_bind', idxN hi (Nat.le_refl _) (show p.2.1.length ≤ 1099511627776 by omega)])
        (fun m _ => by
          unfold laws_FnFloats_L0
          simp only [lt_no, Bool.false_eq_true, if_false])
        (a := tfV p (st, md, ()) 0) trivial).1
      have e1 := foldN_iota (fun (m x : Int) => leastF p (st, md, ()) m x) p.2.1.length (tfV p (st, md, ()) 0)
      rw [e1] at l0
      simp only [z] at l0
      have eR := fun u => Robustness_V hp h u
      have eq1 : eqZ (leastV p (st, md, ())) ((iotaI p.2.1.length).foldl (fun (m x : Int) => leastF p (st, md, ()) m x) (tfV p (st, md, ()) 0)) = true := eqZ_self _
      have eq2 : leZ 0 (slackV p (st, md, ())) = true := by rw [leZ_iff]; exact sl0
      have eq3 : eqZ (0 : Int) 0 = true := rfl
      simp only [hc, Bool.false_eq_true, if_false, ep, some_bind', ew, ScheduleOk_impl _ _ _ hp, h, notB_true, hw1, et0, l0, eR, eq1, if_true, DeadlineSlack_impl _ _ _ hp, eq2, Distance_self hp hf, eq3]
  · simp only [hc, if_true]
theorem L_FnFloats (x : Ty.dens H_laws_FnFloats.ps) (h : Ty.fits H_laws_FnFloats.ps x) : laws_FnFloats x () = some (true, ()) := by
  obtain ⟨b, u⟩ := x
  exact plain_FnFloats b
end Go.Proofs.YtjhpeeapijjgjaaGreat
