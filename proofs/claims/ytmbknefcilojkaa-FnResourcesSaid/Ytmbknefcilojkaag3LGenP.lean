/-
  Plain laws: what the projects that a generator draws are like, and that they are valid. No condition.
-/
import Derived.Test.Ytmbknefcilojkaag3LProj2
namespace Go.Proofs.Ytmbknefcilojkaa
open Go.Abs
set_option linter.unusedVariables false
set_option linter.unusedSimpArgs false

/-- the names that are given, by place -/
def genName : Nat → List UInt8
  | 0 => [97]
  | 1 => [98]
  | 2 => [99]
  | 3 => [100]
  | 4 => [101, 49]
  | _ => [102]
theorem genName_ok : ∀ i, i < 6 → nameB (genName i) = true ∧ (genName i).length ≤ 2
  | 0, _ => ⟨by decide, by decide⟩
  | 1, _ => ⟨by decide, by decide⟩
  | 2, _ => ⟨by decide, by decide⟩
  | 3, _ => ⟨by decide, by decide⟩
  | 4, _ => ⟨by decide, by decide⟩
  | 5, _ => ⟨by decide, by decide⟩
  | n + 6, h => absurd h (by omega)
theorem genName_ne : ∀ i, i < 6 → ∀ j, j < i → eqS (genName j) (genName i) = false := by decide
structure GenM (r s : Nat) (m : D_Mode) : Prop where
  d : 1 ≤ m.1 ∧ m.1 ≤ 4
  ul : m.2.1.length = r
  u : ∀ x ∈ m.2.1, 0 ≤ x ∧ x ≤ 2
  cl : m.2.2.1.length = s
  c : ∀ x ∈ m.2.2.1, 0 ≤ x ∧ x ≤ 2
structure GenA (r s i : Nat) (a : D_Activity) : Prop where
  name : a.1 = genName i
  fam : 0 ≤ a.2.1 ∧ a.2.1 ≤ 1
  ml : 1 ≤ a.2.2.1.length ∧ a.2.2.1.length ≤ 2
  m : ∀ m ∈ a.2.2.1, GenM r s m
structure GenR (x : D_Resource) : Prop where
  steps : stepsB x.1 = true
  sl : x.1.length ≤ 3
  setup : x.2.1 = [] ∨ (x.2.1.length = 4 ∧ ∀ row ∈ x.2.1, row.length = 4 ∧ ∀ n ∈ row, 0 ≤ n ∧ n ≤ 2)
structure GenP (most : Nat) (p : D_Project) : Prop where
  dl : 1 ≤ p.1 ∧ p.1 ≤ 23
  rl : 1 ≤ p.2.2.2.1.length ∧ p.2.2.2.1.length ≤ 2
  r : ∀ x ∈ p.2.2.2.1, GenR x
  sl : p.2.2.2.2.1.length ≤ 1
  s : ∀ x ∈ p.2.2.2.2.1, 0 ≤ x ∧ x ≤ 5
  al : 1 ≤ p.2.1.length ∧ p.2.1.length ≤ most
  a : ∀ i (hi : i < p.2.1.length), GenA p.2.2.2.1.length p.2.2.2.2.1.length i p.2.1[i]
  kl : p.2.2.1.length ≤ 3
  k : ∀ k ∈ p.2.2.1, linkB (p.2.1.length : Int) k = true
theorem GenM.ok {r s : Nat} {m : D_Mode} (h : GenM r s m) : modeB m (r : Int) (s : Int) = true := by
  unfold modeB
  simp only [Bool.and_eq_true, List.all_eq_true]
  refine ⟨⟨inB_iff.2 (by have := h.d; omega), fun x hx => inB_iff.2 (by have := h.u x hx; omega), ?_⟩, fun x hx => inB_iff.2 (by have := h.c x hx; omega), ?_⟩
  · rw [eqZ_dec, decide_eq_true_eq, h.ul]
  · rw [eqZ_dec, decide_eq_true_eq, h.cl]
theorem GenR.ok {x : D_Resource} (h : GenR x) : resrB x = true := by
  unfold resrB
  simp only [Bool.and_eq_true, List.all_eq_true, Bool.or_eq_true]
  rcases h.setup with e | ⟨e1, e2⟩
  · refine ⟨fun row hr => ?_, h.steps, .inl ?_⟩
    · rw [e] at hr; simp at hr
    · rw [e]; rfl
  · refine ⟨fun row hr => ?_, h.steps, .inr ?_⟩
    · unfold rowB
      simp only [Bool.and_eq_true, List.all_eq_true]
      obtain ⟨f1, f2⟩ := e2 row hr
      refine ⟨by rw [eqZ_dec, decide_eq_true_eq, f1]; rfl, fun n hn => inB_iff.2 (by have := f2 n hn; omega)⟩
    · rw [eqZ_dec, decide_eq_true_eq, e1]; rfl
theorem GenP.ok {most : Nat} {p : D_Project} (h : GenP most p) (hm : most ≤ 6) : projB p = true := by
  unfold projB
  simp only [Bool.and_eq_true, List.all_eq_true]
  have hal := h.al
  have hrl := h.rl
  have hsl := h.sl
  have hkl := h.kl
  have hdl := h.dl
  have lt_f : ∀ {x y : Int}, y ≤ x → notB (ltZ x y) = true := fun {x y} hxy => by
    have : ltZ x y = false := by rw [Bool.eq_false_iff, Ne, ltZ_iff]; omega
    rw [this]; rfl
  refine ⟨⟨⟨⟨⟨⟨⟨⟨inB_iff.2 (by omega), inB_iff.2 (by rw [lenI_eq]; omega)⟩, lt_f (by rw [lenI_eq]; omega)⟩, lt_f (by rw [lenI_eq]; omega)⟩, lt_f (by rw [lenI_eq]; omega)⟩, fun i hi => ?_⟩, fun x hx => (h.r x hx).ok⟩, fun x hx => inB_iff.2 (by have := h.s x hx; omega)⟩, fun k hk => h.k k hk⟩
  have hi' : i < p.2.1.length := by simpa using hi
  have ha := h.a i hi'
  unfold actI
  rw [List.getElem?_eq_getElem hi']
  simp only [Bool.and_eq_true]
  refine ⟨?_, ?_⟩
  · unfold actB
    simp only [Bool.and_eq_true, List.all_eq_true]
    refine ⟨fun m hm => (ha.m m hm).ok, ⟨?_, inB_iff.2 (by have := ha.fam; omega)⟩, inB_iff.2 (by have := ha.ml; omega)⟩
    rw [ha.name]
    exact (genName_ok i (by omega)).1
  · have hf : p.2.1.findIdx? (fun b => eqS b.1 p.2.1[i].1) = some i := by
      rw [List.findIdx?_eq_some_iff_getElem]
      refine ⟨hi', eqS_self _, fun j hj => ?_⟩
      have hj' : j < p.2.1.length := by omega
      rw [(h.a j hj').name, ha.name, genName_ne i (by omega) j hj]
      simp
    unfold idxOf
    rw [hf]
    exact eqZ_self _
theorem GenP.sm {most : Nat} {p : D_Project} (h : GenP most p) (hm : most ≤ 6) {B : Nat} (hB : 8 ≤ B) : Sm_Project B p := by
  have hal := h.al
  have hrl := h.rl
  have hsl := h.sl
  have hkl := h.kl
  refine ⟨trivial, ⟨by omega, fun a ha => ?_⟩, ⟨by omega, fun k hk => ⟨trivial, trivial, trivial, trivial, trivial⟩⟩, ⟨by omega, fun x hx => ?_⟩, ⟨by omega, fun _ _ => trivial⟩, trivial⟩
  · obtain ⟨i, hi, rfl⟩ := List.mem_iff_getElem.1 ha
    have g := h.a i hi
    refine ⟨?_, trivial, ⟨by have := g.ml; omega, fun m hm => ⟨trivial, ⟨by have := (g.m m hm).ul; omega, fun _ _ => trivial⟩, ⟨by have := (g.m m hm).cl; omega, fun _ _ => trivial⟩, trivial⟩⟩, trivial⟩
    rw [g.name]
    have := (genName_ok i (by omega)).2
    omega
  · have g := h.r x hx
    refine ⟨⟨by have := g.sl; omega, fun _ _ => ⟨trivial, trivial, trivial⟩⟩, ⟨?_, fun row hr => ⟨?_, fun _ _ => trivial⟩⟩, trivial⟩
    · rcases g.setup with e | ⟨e, -⟩
      · rw [e]; simp
      · rw [e]; omega
    · rcases g.setup with e | ⟨-, e⟩
      · rw [e] at hr; simp at hr
      · have := (e row hr).1; omega
end Go.Proofs.Ytmbknefcilojkaa
