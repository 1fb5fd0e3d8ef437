/-
  Plain laws: numbers in a row, lists that hold a number, sets, domains (several small texts in one). Condition: no list is longer than 2 to the 40.
-/
import Derived.Test.YtjhpeeapijjgjaaGreatn4LRunM
import Derived.Test.YtjhpeeapijjgjaaGreatn4LLeastM
import Derived.Test.YtjhpeeapijjgjaaGreatn4LBoxM
namespace Go.Proofs.YtjhpeeapijjgjaaGreat
open Go.Abs
set_option linter.unusedVariables false
set_option linter.unusedSimpArgs false

theorem grow_loopI {σ B C E : Type} {F : σ → Option (Out σ B C)} (emb : Nat → List E → σ) (n : Nat) (P : Nat → List E → Prop) (b : List E → B) (hn : n ≤ 1099511627776)
  (hs : ∀ i out, i < n → P i out → ∃ out', F (emb i out) = some (.norm (emb (i + 1) out')) ∧ P (i + 1) out')
  (he : ∀ out, F (emb n out) = some (.exit (b out))) {out : List E} {s : σ} (hs0 : s = emb 0 out) (hP : P 0 out) :
  ∃ out', (∀ A : Type, loopN (A := A) big F s = some (.exit (b out'))) ∧ P n out' := by
 classical
 subst hs0
 let f : Nat → List E → List E := fun i out => if h : i < n ∧ P i out then Classical.choose (hs i out h.1 h.2) else out
 have key := fun A : Type => fold_loop (A := A) (F := F) emb n P f b hn
  (fun i a hi hI => by
   have h : i < n ∧ P i a := ⟨hi, hI⟩
   have e : f i a = Classical.choose (hs i a h.1 h.2) := dif_pos h
   rw [e]
   exact Classical.choose_spec (hs i a h.1 h.2))
  (fun a _ => he a) (a := out) hP
 exact ⟨_, fun A => (key A).1, (key Unit).2⟩
/-- the rule of a pair, of a capacity, of a stock -/
def pairR (j b c : Nat) : D_Rule := (5, (j : Int), (b : Int), (c : Int), ())
def stockR (k : Nat) : D_Rule := (6, (k : Int), 0, 0, ())
open Go.Abs
set_option linter.unusedVariables false
set_option linter.unusedSimpArgs false

def endV (p : D_Project) (s : D_Schedule) (a : Int) : Int := match spec_l09End (p, s, a, ()) () with | some e => e.1 | none => 0
theorem endV_at {p : D_Project} {s : D_Schedule} (hp : Sm_Project 1099511627776 p) (h : formB p s = true) {i : Nat} (hi : i < p.2.1.length) : (∀ u, spec_l09End (p, s, (i : Int), u) () = some (endV p s (i : Int), ())) ∧ 1 ≤ endV p s (i : Int) ∧ endV p s (i : Int) ≤ 72 := by
 obtain ⟨x, e, md, g1, ge, gm, he, h1, h2, h3, h4, -⟩ := run_at hp h hi
 have : endV p s (i : Int) = e := by unfold endV; rw [ge]
 rw [this]
 refine ⟨ge, ?_⟩
 rw [he, addZ64 (by omega) (by omega)]
 omega
open Go.Abs
set_option linter.unusedVariables false
set_option linter.unusedSimpArgs false

/-- a domain that can be used -/
structure UseD (p : D_Project) (b : D_Domain) : Prop where
 hp : Sm_Project 1099511627776 p
 hb : Sm_Domain 1099511627776 b
 dom : domB p b = true
 ne : emptyB b = false
 l : BoxL p.2.1.length b
def durM (p : D_Project) (b : D_Domain) (i : Nat) : Int := match p.2.1[i]? with | some a => lstV (fun m => m.1) a (moB b i) | none => 0
def needM (p : D_Project) (b : D_Domain) (j i : Nat) : Int := match p.2.1[i]? with | some a => lstV (atV false (j : Int)) a (moB b i) | none => 0
def setM (p : D_Project) (j b c : Nat) : Int := match p.2.2.2.1[j]?, p.2.1[b]?, p.2.1[c]? with
 | some r, some x, some y => ((getI r.2.1 x.2.1).bind fun row => getI row y.2.1).getD 0
 | _, _, _ => 0
def aftM (p : D_Project) (b : D_Domain) (j c d : Nat) : Int := mnB b c + durM p b c + setM p j c d
theorem UseD.use {p : D_Project} {b : D_Domain} (h : UseD p b) : useB p b = true := by unfold useB; rw [h.dom, h.ne]; rfl
theorem UseD.rng {p : D_Project} {b : D_Domain} (h : UseD p b) {i : Nat} (hi : i < p.2.1.length) : -2 ≤ mnB b i ∧ mnB b i ≤ 62 ∧ -2 ≤ mxB b i ∧ mxB b i ≤ 62 ∧ (moB b i).length ≤ 1099511627776 := by
 obtain ⟨x, y, m, g1, g2, g3, hm, x1, x2, y1, y2, -, -⟩ := dom_at h.dom hi
 obtain ⟨k1, k2, k3⟩ := h.l.get hi
 rw [k1] at g1
 rw [k2] at g2
 rw [k3] at g3
 cases g1
 cases g2
 cases g3
 exact ⟨x1, x2, y1, y2, (h.hb.2.2.1.2 _ hm).1⟩
theorem UseD.dur {p : D_Project} {b : D_Domain} (h : UseD p b) {i : Nat} (hi : i < p.2.1.length) (u : Unit) : impl_Project_duration (p, b, (i : Int), u) () = some (durM p b i, ()) := by
 have hpj := proj_of_dom h.dom
 have ha := mode_len hpj hi
 obtain ⟨-, -, k3⟩ := h.l.get hi
 have hm := (h.rng hi).2.2.2.2
 unfold impl_Project_duration durM
 rw [List.getElem?_eq_getElem hi]
 simp only [getI_lt hi, k3, MinDuration_impl _ _ _ (show p.2.1[i].2.2.1.length ≤ 1000000 by omega) hm, dur_lst, some_bind']
theorem durM_in {p : D_Project} (hpj : projB p = true) (b : D_Domain) {i : Nat} (hi : i < p.2.1.length) : 0 ≤ durM p b i ∧ durM p b i ≤ 12 := by
 unfold durM
 rw [List.getElem?_eq_getElem hi]
 exact lstV_in _ (by omega) (by omega) fun m hm => by
  obtain ⟨h1, h2, -⟩ := mode_atM hpj hi m hm
  omega
theorem UseD.need {p : D_Project} {b : D_Domain} (h : UseD p b) {i j : Nat} (hi : i < p.2.1.length) (hj : j < p.2.2.2.1.length) : (∀ u, impl_MinUsage (p.2.1[i], moB b i, (j : Int), u) () = some (needM p b j i, ())) ∧ ∀ u, impl_RequiredUsage (p, b, (j : Int), (i : Int), u) () = some (needM p b j i, ()) := by
 have hpj := proj_of_dom h.dom
 have ha := mode_len hpj hi
 obtain ⟨-, -, k3⟩ := h.l.get hi
 have hm := (h.rng hi).2.2.2.2
 obtain ⟨-, e2⟩ := MinUsage_both p.2.1[i] (moB b i) (j : Int) (by omega) hm (fun md hmd => by
  have := usage_atM h.hp hpj hi hj md hmd
  exact ⟨this.1, this.2.1⟩)
 have e3 : ∀ u, impl_MinUsage (p.2.1[i], moB b i, (j : Int), u) () = some (needM p b j i, ()) := fun u => by
  unfold needM
  rw [List.getElem?_eq_getElem hi]
  exact e2 u
 refine ⟨e3, fun u => ?_⟩
 unfold impl_RequiredUsage
 simp only [isUsable_eq _ _ _ h.hp h.hb, h.use, hasActivity_eq, inB_atP h.hp.2.1.1 hi, hasResource_eqP, inB_atP h.hp.2.2.2.1.1 hj, notB_true, Bool.false_eq_true, if_false, some_bind', getI_lt hi, k3, e3]
theorem needM_in {p : D_Project} (hp : Sm_Project 1099511627776 p) (hpj : projB p = true) (b : D_Domain) {i j : Nat} (hi : i < p.2.1.length) (hj : j < p.2.2.2.1.length) : 0 ≤ needM p b j i ∧ needM p b j i ≤ 20 := by
 unfold needM
 rw [List.getElem?_eq_getElem hi]
 exact lstV_in _ (by omega) (by omega) fun m hm => (usage_atM hp hpj hi hj m hm).2.2
theorem SetupTime_M {p : D_Project} (hp : Sm_Project 1099511627776 p) (h : projB p = true) {j b c : Nat} (hj : j < p.2.2.2.1.length) (h0 : 0 < p.2.2.2.1[j].2.1.length) (hb : b < p.2.1.length) (hc : c < p.2.1.length) :
  (∀ u, impl_SetupTime (p, (j : Int), (b : Int), (c : Int), u) () = some (setM p j b c, ())) ∧ 0 ≤ setM p j b c ∧ setM p j b c ≤ 12 := by
 obtain ⟨row, n, r1, r2, n0, n1⟩ := setup_atP h hj h0 hb hc
 have e : setM p j b c = n := by
  unfold setM
  rw [List.getElem?_eq_getElem hj, List.getElem?_eq_getElem hb, List.getElem?_eq_getElem hc]
  simp only [r1, r2, Option.bind_some, Option.getD_some]
 rw [e]
 exact ⟨fun u => SetupTime_impl_atP hp h u hj h0 hb hc r1 r2, n0, n1⟩
theorem after_M {p : D_Project} {b : D_Domain} (h : UseD p b) {j c d : Nat} (hj : j < p.2.2.2.1.length) (h0 : 0 < p.2.2.2.1[j].2.1.length) (hc : c < p.2.1.length) (hd : d < p.2.1.length) (u : Unit) :
  impl_Project_after (p, b, (j : Int), (c : Int), (d : Int), u) () = some (aftM p b j c d, ()) := by
 have hpj := proj_of_dom h.dom
 obtain ⟨k1, -, -⟩ := h.l.get hc
 obtain ⟨x1, x2, -⟩ := h.rng hc
 obtain ⟨d1, d2⟩ := durM_in hpj b hc
 obtain ⟨e, s1, s2⟩ := SetupTime_M h.hp hpj hj h0 hc hd
 unfold impl_Project_after aftM
 simp only [k1, h.dur hc, e, some_bind']
 rw [addZ64 (x := mnB b c) (by omega) (by omega), addZ64 (by omega) (by omega)]
theorem arePair_M {p : D_Project} {b : D_Domain} (h : UseD p b) {j c d : Nat} (hj : j < p.2.2.2.1.length) (h0 : 0 < p.2.2.2.1[j].2.1.length) (hc : c < p.2.1.length) (hd : d < p.2.1.length) (u : Unit) :
  impl_arePair (p, b, (j : Int), (c : Int), (d : Int), u) () = some (notB (eqZ (c : Int) (d : Int)), ()) := by
 have hM : machBP p (j : Int) = true := by rw [machB_atP h.hp hj, ltZ_iff, lenI_eq]; omega
 unfold impl_arePair impl_onMachine
 simp only [isUsable_eq _ _ _ h.hp h.hb, h.use, IsMachine_impl_eqP, IsMachine_specP _ _ _ h.hp, hM, hasActivity_eq, inB_atP h.hp.2.1.1 hc, inB_atP h.hp.2.1.1 hd, if_true, some_bind']
def bothM (p : D_Project) (b : D_Domain) (j c d : Nat) : Bool := notB (eqZ (c : Int) (d : Int)) && (ltZ 0 (needM p b j c) && ltZ 0 (needM p b j d))
def canM (p : D_Project) (b : D_Domain) (j c d : Nat) : Bool := notB (eqZ (c : Int) (d : Int)) && leZ (aftM p b j c d) (mxB b d)
theorem BothUse_M {p : D_Project} {b : D_Domain} (h : UseD p b) {j c d : Nat} (hj : j < p.2.2.2.1.length) (h0 : 0 < p.2.2.2.1[j].2.1.length) (hc : c < p.2.1.length) (hd : d < p.2.1.length) (u : Unit) :
  impl_BothUse (p, b, (j : Int), (c : Int), (d : Int), u) () = some (bothM p b j c d, ()) := by
 have e1 := (h.need hc hj).2
 have e2 := (h.need hd hj).2
 unfold impl_BothUse bothM
 simp only [arePair_M h hj h0 hc hd, some_bind']
 rcases tf (notB (eqZ (c : Int) (d : Int))) with q | q <;> rcases tf (ltZ 0 (needM p b j c)) with q1 | q1 <;> rcases tf (ltZ 0 (needM p b j d)) with q2 | q2 <;> simp [q, q1, q2, e1, e2]
theorem CanPrecede_M {p : D_Project} {b : D_Domain} (h : UseD p b) {j c d : Nat} (hj : j < p.2.2.2.1.length) (h0 : 0 < p.2.2.2.1[j].2.1.length) (hc : c < p.2.1.length) (hd : d < p.2.1.length) (u : Unit) :
  impl_CanPrecede (p, b, (j : Int), (c : Int), (d : Int), u) () = some (canM p b j c d, ()) := by
 obtain ⟨-, k2, -⟩ := h.l.get hd
 unfold impl_CanPrecede canM
 simp only [arePair_M h hj h0 hc hd, some_bind']
 rcases tf (notB (eqZ (c : Int) (d : Int))) with q | q
 ·simp [q]
 ·simp [q, after_M h hj h0 hc hd, k2]
theorem PairConflict_M {p : D_Project} {b : D_Domain} (h : UseD p b) {j c d : Nat} (hj : j < p.2.2.2.1.length) (h0 : 0 < p.2.2.2.1[j].2.1.length) (hc : c < p.2.1.length) (hd : d < p.2.1.length) (u : Unit) :
  impl_PairConflict (p, b, (j : Int), (c : Int), (d : Int), u) () = some (bothM p b j c d && (notB (canM p b j c d) && notB (canM p b j d c)), ()) := by
 unfold impl_PairConflict
 simp only [BothUse_M h hj h0 hc hd, some_bind']
 rcases tf (bothM p b j c d) with q | q <;> rcases tf (canM p b j c d) with q1 | q1 <;> rcases tf (canM p b j d c) with q2 | q2 <;> simp [q, q1, q2, CanPrecede_M h hj h0 hc hd, CanPrecede_M h hj h0 hd hc, notB]
open Go.Abs
set_option linter.unusedVariables false
set_option linter.unusedSimpArgs false

theorem sch_of_form {p : D_Project} {s : D_Schedule} (h : formB p s = true) : SchL p.2.1.length s := by
 unfold formB at h
 simp only [Bool.and_eq_true] at h
 exact ⟨len_of_eqZ h.1.1.2, len_of_eqZ h.1.2⟩
theorem pair_fail {p : D_Project} {s : D_Schedule} (hp : Sm_Project 1099511627776 p) (h : formB p s = true) {j b c : Nat} (hj : j < p.2.2.2.1.length) (hpos : 0 < p.2.2.2.1[j].2.1.length) (hb : b < p.2.1.length) (hc : c < p.2.1.length) :
  failB p s (pairR j b c) = (if eqZ (useOf p s (j : Int) (b : Int)) 0 = true then false else if eqZ (useOf p s (j : Int) (c : Int)) 0 = true then false else if leZ (addZ .i64 (endV p s (b : Int)) (setM p j b c)) (tsS s c) = true then false else notB (leZ (addZ .i64 (endV p s (c : Int)) (setM p j c b)) (tsS s b))) := by
 have h0 := proj_of_form h
 have hs := sch_of_form h
 have z1 : eqZ 5 1 = false := rfl
 have z2 : eqZ 5 2 = false := rfl
 have z3 : eqZ 5 3 = false := rfl
 have z4 : eqZ 5 4 = false := rfl
 have z5 : eqZ 5 5 = true := rfl
 obtain ⟨x, e, md, -, -, gm, -, -, -, -, -, gr, gu⟩ := run_at hp h hb
 obtain ⟨x', e', md', -, -, gm', -, -, -, -, -, gr', gu'⟩ := run_at hp h hc
 have ge := (endV_at hp h hb).1
 have ge' := (endV_at hp h hc).1
 obtain ⟨g1, -⟩ := hs.get hb
 obtain ⟨g1', -⟩ := hs.get hc
 have e1 : ∀ {a d : Nat} {row : List Int} {n : Int} (ha : a < p.2.1.length) (hd : d < p.2.1.length), getI p.2.2.2.1[j].2.1 p.2.1[a].2.1 = some row → getI row p.2.1[d].2.1 = some n → setM p j a d = n := fun {a d row n} ha hd r1 r2 => by
  unfold setM
  rw [List.getElem?_eq_getElem hj, List.getElem?_eq_getElem ha, List.getElem?_eq_getElem hd]
  simp only [r1, r2, Option.bind_some, Option.getD_some]
 obtain ⟨row, n, s1, s2, -⟩ := setup_at h0 hj hpos hb hc
 obtain ⟨row', n', s1', s2', -⟩ := setup_at h0 hj hpos hc hb
 rw [e1 hb hc s1 s2, e1 hc hb s1' s2']
 have A1 := fun u => Ahead_spec_at (p := p) (s := s) u hj hb hc s1 s2 ge g1'
 have A2 := fun u => Ahead_spec_at (p := p) (s := s) u hj hc hb s1' s2' ge' g1
 have key : ∀ u, spec_l10Fails (p, s, pairR j b c, u) () = some ((if eqZ (useOf p s (j : Int) (b : Int)) 0 = true then false else if eqZ (useOf p s (j : Int) (c : Int)) 0 = true then false else if leZ (addZ .i64 (endV p s (b : Int)) n) (tsS s c) = true then false else notB (leZ (addZ .i64 (endV p s (c : Int)) n') (tsS s b))), ()) := fun u => by
  unfold spec_l10Fails spec_l10Pair pairR
  simp only [z1, z2, z3, z4, z5, if_true, Bool.false_eq_true, if_false, some_bind', gm, gm', gu j hj, gu' j hj]
  rcases tf (eqZ (useOf p s (j : Int) (b : Int)) 0) with h1 | h1 <;> rcases tf (eqZ (useOf p s (j : Int) (c : Int)) 0) with h2 | h2 <;> rcases tf (leZ (addZ .i64 (endV p s (b : Int)) n) (tsS s c)) with h3 | h3 <;> simp [notB, h1, h2, h3, gm', gu' j hj, A1, A2]
 unfold failB
 rw [key]
theorem both_iff {p : D_Project} {b : D_Domain} {j c d : Nat} : bothM p b j c d = true ↔ c ≠ d ∧ 0 < needM p b j c ∧ 0 < needM p b j d := by
 unfold bothM
 rw [Bool.and_eq_true, Bool.and_eq_true, ltZ_iff, ltZ_iff, notB_not, Bool.not_eq_true', Bool.eq_false_iff, Ne, eqZ_iff]
 constructor
 ·rintro ⟨h1, h2, h3⟩; exact ⟨fun e => h1 (by rw [e]), h2, h3⟩
 ·rintro ⟨h1, h2, h3⟩; exact ⟨fun e => h1 (Int.ofNat.inj e), h2, h3⟩
theorem can_iff {p : D_Project} {b : D_Domain} {j c d : Nat} : canM p b j c d = true ↔ c ≠ d ∧ aftM p b j c d ≤ mxB b d := by
 unfold canM
 rw [Bool.and_eq_true, leZ_iff, notB_not, Bool.not_eq_true', Bool.eq_false_iff, Ne, eqZ_iff]
 constructor
 ·rintro ⟨h1, h2⟩; exact ⟨fun e => h1 (by rw [e]), h2⟩
 ·rintro ⟨h1, h2⟩; exact ⟨fun e => h1 (Int.ofNat.inj e), h2⟩
end Go.Proofs.YtjhpeeapijjgjaaGreat
