/-
  Plain laws: what is known of an activity, of a link, of a machine in a schedule of the right form. Condition: no list is longer than 2 to the 40.
-/
import Derived.Test.YtafnhdfjcocpgaaGreatw3LForm
import Derived.Test.YtafnhdfjcocpgaaGreatw3LMach
namespace Go.Proofs.YtafnhdfjcocpgaaGreat
open Go.Abs
set_option linter.unusedVariables false
set_option linter.unusedSimpArgs false

def runBP (p : D_Project) (s : D_Schedule) (t a : Int) : Bool := match getI s.1 a, spec_l09End (p, s, a, ()) () with
  | some x, some e => leZ x t && ltZ t e.1
  | _, _ => false
/-- what an activity uses -/
def useOfP (p : D_Project) (s : D_Schedule) (res a : Int) : Int := match spec_l09Mode (p, s, a, ()) () with
  | some m => (getI m.1.2.1 res).getD 0
  | none => 0
theorem mode_eqP {p : D_Project} {s : D_Schedule} {i m : Nat} {md : D_Mode} (u : Unit) (hi : i < p.2.1.length) (h2 : getI s.2.1 (i : Int) = some (m : Int)) (h3 : getI p.2.1[i].2.2.1 (m : Int) = some md) :
    spec_l09Mode (p, s, (i : Int), u) () = some (md, ()) := by
  unfold spec_l09Mode
  simp only [getI_lt hi, h2, h3, some_bind']
/-- what is known of an activity in a schedule of the right form -/
theorem run_atP {p : D_Project} {s : D_Schedule} (hp : Sm_Project 1099511627776 p) (h : formB p s = true) {i : Nat} (hi : i < p.2.1.length) :
    ∃ (x e : Int) (md : D_Mode), getI s.1 (i : Int) = some x ∧ (∀ u, spec_l09End (p, s, (i : Int), u) () = some (e, ())) ∧ (∀ u, spec_l09Mode (p, s, (i : Int), u) () = some (md, ())) ∧ e = addZ .i64 x md.1 ∧ 0 ≤ x ∧ x ≤ 60 ∧ 1 ≤ md.1 ∧ md.1 ≤ 12 ∧
      (∀ t, runBP p s t (i : Int) = (leZ x t && ltZ t e)) ∧ ∀ j : Nat, j < p.2.2.2.1.length → getI md.2.1 (j : Int) = some (useOfP p s (j : Int) (i : Int)) := by
  obtain ⟨t, m, md, g1, g2, g3, hm, h0, h6, hmb, -⟩ := form_at hp h hi
  have ge := fun u => end_eq (p := p) (s := s) u hi g1 g2 g3
  have gm := fun u => mode_eqP (p := p) (s := s) u hi g2 g3
  unfold modeB at hmb
  simp only [Bool.and_eq_true] at hmb
  have hd := inB_iff.1 hmb.1.1
  refine ⟨t, _, md, g1, ge, gm, rfl, h0, h6, hd.1, hd.2, fun t' => ?_, fun j hj => ?_⟩
  · unfold runBP
    simp only [g1, ge]
  · have hlen := hmb.1.2.2
    rw [eqZ_dec, decide_eq_true_eq, lenI_eq] at hlen
    have hj' : j < md.2.1.length := by omega
    unfold useOfP
    simp only [gm, getI_lt hj', Option.getD_some]
/-- what an activity consumes -/
def consOfP (p : D_Project) (s : D_Schedule) (k a : Int) : Int := match spec_l09Mode (p, s, a, ()) () with
  | some m => (getI m.1.2.2.1 k).getD 0
  | none => 0
theorem cons_atP {p : D_Project} {s : D_Schedule} (hp : Sm_Project 1099511627776 p) (h : formB p s = true) {i : Nat} (hi : i < p.2.1.length) {k : Nat} (hk : k < p.2.2.2.2.1.length) :
    ∃ md : D_Mode, (∀ u, spec_l09Mode (p, s, (i : Int), u) () = some (md, ())) ∧ getI md.2.2.1 (k : Int) = some (consOfP p s (k : Int) (i : Int)) := by
  obtain ⟨t, m, md, g1, g2, g3, hm, h0, h6, hmb, -⟩ := form_at hp h hi
  have gm := fun u => mode_eqP (p := p) (s := s) u hi g2 g3
  unfold modeB at hmb
  simp only [Bool.and_eq_true] at hmb
  have hlen := hmb.2.2
  rw [eqZ_dec, decide_eq_true_eq, lenI_eq] at hlen
  have hk' : k < md.2.2.1.length := by omega
  refine ⟨md, gm, ?_⟩
  unfold consOfP
  simp only [gm, getI_lt hk', Option.getD_some]
theorem notB_ltZP (x y : Int) : notB (ltZ x y) = leZ y x := by
  rw [notB_not, Bool.eq_iff_iff, Bool.not_eq_true', Bool.eq_false_iff, Ne, ltZ_iff, leZ_iff]; omega
theorem linkHolds_failsP (p : D_Project) (s : D_Schedule) (k : Nat) (r3 r4 : Int) (hp : Sm_Project 1099511627776 p) (h : formB p s = true) (hk : k < p.2.2.1.length) : ∃ b, (∀ u, spec_l10Fails (p, s, (1, (k : Int), r3, r4, ()), u) () = some (b, ())) ∧ ∀ u, impl_Project_linkHolds (p, s, p.2.2.1[k], u) () = some (notB b, ()) := by
  obtain ⟨f, t, ef, et, hf, ht, -⟩ := link_atP hp (proj_of_form h) hk
  obtain ⟨x, e, md, g1, ge, -⟩ := run_atP hp h hf
  obtain ⟨y, e', md', g1', ge', -⟩ := run_atP hp h ht
  have z : eqZ 1 1 = true := rfl
  rcases tf p.2.2.1[k].2.2.1 with hb | hb
  · refine ⟨ltZ y (addZ .i64 x p.2.2.1[k].2.2.2.1), fun u => ?_, fun u => ?_⟩
    · unfold spec_l10Fails
      simp only [z, if_true, getI_lt hk, some_bind', ef, et, g1, g1', ge, hb, Bool.false_eq_true, if_false]
    · unfold impl_Project_linkHolds
      simp only [end_impl, some_bind', ef, et, g1, g1', ge, hb, Bool.false_eq_true, if_false, notB_ltZP]
  · refine ⟨ltZ y (addZ .i64 e p.2.2.1[k].2.2.2.1), fun u => ?_, fun u => ?_⟩
    · unfold spec_l10Fails
      simp only [z, if_true, getI_lt hk, some_bind', ef, et, g1, g1', ge, hb]
    · unfold impl_Project_linkHolds
      simp only [end_impl, some_bind', ef, et, g1, g1', ge, hb, if_true, notB_ltZP]
end Go.Proofs.YtafnhdfjcocpgaaGreat
