/-
  Plain laws: what the program computes when it asks whether a domain refutes a rule, as sums. Condition: no list is longer than 2 to the 40.
-/
import Derived.Test.YtjhpeeapijjgjaaGreatn4LPairsM
namespace Go.Proofs.YtjhpeeapijjgjaaGreat
open Go.Abs
set_option linter.unusedVariables false
set_option linter.unusedSimpArgs false

/-! sums -/
def sumI (f : Nat → Int) : Nat → Int
 | 0 => 0
 | n + 1 => sumI f n + f n
theorem sumI_le {f g : Nat → Int} : ∀ {n : Nat}, (∀ i, i < n → f i ≤ g i) → sumI f n ≤ sumI g n
 | 0, _ => Int.le_refl _
 | n + 1, h => by
  have h1 := sumI_le (n := n) fun i hi => h i (by omega)
  have h2 := h n (by omega)
  simp only [sumI]
  omega
theorem sumI_eq {f g : Nat → Int} {n : Nat} (h : ∀ i, i < n → f i = g i) : sumI f n = sumI g n :=
 Int.le_antisymm (sumI_le fun i hi => Int.le_of_eq (h i hi)) (sumI_le fun i hi => Int.le_of_eq (h i hi).symm)
theorem sumI_in {f : Nat → Int} {c : Int} : ∀ {n : Nat}, (∀ i, i < n → 0 ≤ f i ∧ f i ≤ c) → 0 ≤ sumI f n ∧ sumI f n ≤ n * c
 | 0, _ => by simp [sumI]
 | n + 1, h => by
  obtain ⟨h1, h2⟩ := sumI_in (n := n) fun i hi => h i (by omega)
  obtain ⟨h3, h4⟩ := h n (by omega)
  simp only [sumI]
  have e : ((n + 1 : Nat) : Int) * c = n * c + c := by rw [Int.natCast_add, Int.add_mul]; simp
  rw [e]
  omega
theorem sumI_add (f g : Nat → Int) : ∀ n, sumI (fun i => f i + g i) n = sumI f n + sumI g n
 | 0 => rfl
 | n + 1 => by
  simp only [sumI]
  rw [sumI_add f g n]
  omega
theorem sumI_zero : ∀ n, sumI (fun _ => 0) n = 0
 | 0 => rfl
 | n + 1 => by simp only [sumI]; rw [sumI_zero n]; rfl
theorem sumI_swap (f : Nat → Nat → Int) (m : Nat) : ∀ n, sumI (fun t => sumI (f t) m) n = sumI (fun i => sumI (fun t => f t i) n) m
 | 0 => by
  simp only [sumI]
  exact (sumI_zero m).symm
 | n + 1 => by
  simp only [sumI]
  rw [sumI_swap f m n, ← sumI_add]
theorem sum_loop {σ B C : Type} {F : σ → Option (Out σ B C)} (emb : Nat → Int → σ) (n : Nat) (f : Nat → Int) (b : Int → B) (hn : n ≤ 1000) (hb : ∀ i, i < n → 0 ≤ f i ∧ f i ≤ 1000)
  (hs : ∀ i s, i < n → 0 ≤ s → s ≤ 1000000 → F (emb i s) = some (.norm (emb (i + 1) (s + f i)))) (he : ∀ s, F (emb n s) = some (.exit (b s))) {s0 : σ} (h0 : s0 = emb 0 0) (A : Type) :
  loopN (A := A) big F s0 = some (.exit (b (sumI f n))) := by
 subst h0
 have key := fold_loop (A := A) (F := F) emb n (fun i s => s = sumI f i) (fun i s => s + f i) b (by omega)
  (fun i s hi hI => by
   obtain ⟨h1, h2⟩ := sumI_in (f := f) (c := 1000) (n := i) fun j hj => hb j (by omega)
   have h3 : ((i : Int)) * 1000 ≤ 1000000 := by omega
   refine ⟨hs i s hi (by rw [hI]; exact h1) (by rw [hI]; omega), ?_⟩
   rw [hI]
   rfl)
  (fun s _ => he s) (a := 0) rfl
 rw [key.2] at key
 exact key.1
/-! overlap, work -/
def ovI (s d x y : Int) : Int := max (min (s + d) y - max s x) 0
theorem minI_min (x y : Int) : minI x y = min x y := by unfold minI; split <;> omega
theorem maxI_max (x y : Int) : maxI x y = max x y := by unfold maxI; split <;> omega
theorem ovI_in {s d x y : Int} (hd : 0 ≤ d) : 0 ≤ ovI s d x y ∧ ovI s d x y ≤ d := by
 unfold ovI
 omega
theorem Overlap_I (s d x y : Int) (hs : -2 ≤ s ∧ s ≤ 62) (hd : 1 ≤ d ∧ d ≤ 12) (hx : 0 ≤ x ∧ x ≤ 60) (hy : 0 ≤ y ∧ y ≤ 60) (u : Unit) : impl_Overlap (s, d, x, y, u) () = some (ovI s d x y, ()) := by
 have hg : ∀ i : Nat, i < 4 → ∃ v, getI [s, d, x, y] (i : Int) = some v ∧ inB v (-100000) 100000 = true := fun i hi => by
  rcases i with _ | _ | _ | _ | i
  ·exact ⟨s, rfl, by rw [inB_iff]; omega⟩
  ·exact ⟨d, rfl, by rw [inB_iff]; omega⟩
  ·exact ⟨x, rfl, by rw [inB_iff]; omega⟩
  ·exact ⟨y, rfl, by rw [inB_iff]; omega⟩
  ·omega
 have l0 := fun A : Type => (fold_loop (A := A) (F := impl_Overlap_L0) (fun i (_ : Unit) => ((i : Int), ((4 : Nat) : Int), [s, d, x, y], d, y, s, x, ())) 4 (fun _ _ => True) (fun _ a => a) (fun _ => Sum.inl (false, ((4 : Nat) : Int), ((4 : Nat) : Int), [s, d, x, y], d, y, s, x, ())) (by omega)
  (fun i _ hi _ => by
   obtain ⟨v, g1, g2⟩ := hg i hi
   refine ⟨?_, trivial⟩
   unfold impl_Overlap_L0
   simp only [lt_yes hi, if_true, g1, some_bind', within_eq, g2, notB_true, Bool.false_eq_true, if_false, idxN hi (show 4 ≤ 1099511627776 by omega) (Nat.le_refl _)])
  (fun _ _ => by
   unfold impl_Overlap_L0
   simp only [lt_no, Bool.false_eq_true, if_false])
  (a := ()) trivial).1
 have z : ((0 : Nat) : Int) = 0 := rfl
 simp only [z] at l0
 have hd1 : ltZ d 1 = false := by rw [Bool.eq_false_iff, Ne, ltZ_iff]; omega
 have h4 : lenI [s, d, x, y] = ((4 : Nat) : Int) := rfl
 unfold impl_Overlap ovI
 simp only [h4, l0, some_bind', hd1, Bool.false_eq_true, if_false, minI_min, maxI_max]
 rw [addZ64 (by omega) (by omega), subZ64 (by omega) (by omega)]
def leastS (w : Int → Int) (s : Bool × Int) (k : Int) : Bool × Int := if (notB s.1 || ltZ (w k) s.2) = true then (true, w k) else s
def leastI (w : Int → Int) (l : List Int) : Int := (l.foldl (leastS w) (false, 0)).2
theorem least_min (w : Int → Int) : ∀ (L : List Int) (n : Int), (L.foldl (leastS w) (true, n)).2 ≤ n ∧ (∀ m ∈ L, (L.foldl (leastS w) (true, n)).2 ≤ w m) ∧ ((L.foldl (leastS w) (true, n)).2 = n ∨ ∃ m ∈ L, (L.foldl (leastS w) (true, n)).2 = w m)
 | [], n => ⟨Int.le_refl _, fun m hm => absurd hm (by simp), .inl rfl⟩
 | x :: L, n => by
  rw [List.foldl_cons]
  have e : leastS w (true, n) x = (true, if ltZ (w x) n = true then w x else n) := by
   unfold leastS
   rcases tf (ltZ (w x) n) with h | h <;> simp [h, notB]
  rw [e]
  obtain ⟨h1, h2, h3⟩ := least_min w L (if ltZ (w x) n = true then w x else n)
  have hv : (if ltZ (w x) n = true then w x else n) ≤ n ∧ (if ltZ (w x) n = true then w x else n) ≤ w x ∧ ((if ltZ (w x) n = true then w x else n) = n ∨ (if ltZ (w x) n = true then w x else n) = w x) := by
   split
   ·rename_i h; rw [ltZ_iff] at h; exact ⟨by omega, by omega, .inr rfl⟩
   ·rename_i h; rw [ltZ_iff] at h; exact ⟨by omega, by omega, .inl rfl⟩
  refine ⟨by omega, fun m hm => ?_, ?_⟩
  ·rcases List.mem_cons.1 hm with rfl | hm
   ·omega
   ·exact h2 m hm
  ·rcases h3 with h3 | ⟨m, hm, h3⟩
   ·rcases hv.2.2 with h4 | h4
    ·exact .inl (h3.trans h4)
    ·exact .inr ⟨x, by simp, h3.trans h4⟩
   ·exact .inr ⟨m, by simp [hm], h3⟩
theorem leastI_all (w : Int → Int) (L : List Int) : (∀ m ∈ L, leastI w L ≤ w m) ∧ ((L = [] ∧ leastI w L = 0) ∨ ∃ m ∈ L, leastI w L = w m) := by
 cases L with
 | nil => exact ⟨fun m hm => absurd hm (by simp), .inl ⟨rfl, rfl⟩⟩
 | cons x L =>
  have e : leastS w (false, 0) x = (true, w x) := rfl
  unfold leastI
  rw [List.foldl_cons, e]
  obtain ⟨h1, h2, h3⟩ := least_min w L (w x)
  refine ⟨fun m hm => ?_, .inr ?_⟩
  ·rcases List.mem_cons.1 hm with rfl | hm
   ·exact h1
   ·exact h2 m hm
  ·rcases h3 with h3 | ⟨m, hm, h3⟩
   ·exact ⟨x, by simp, h3⟩
   ·exact ⟨m, by simp [hm], h3⟩
def wrk1 (p : D_Project) (b : D_Domain) (i j : Nat) (x y k : Int) : Int := match p.2.1[i]? with
 | some a => (match a.2.2.1[k.toNat]? with | some m => min (ovI (mnB b i) m.1 x y) (ovI (mxB b i) m.1 x y) * atV false (j : Int) m | none => 0)
 | none => 0
def workM (p : D_Project) (b : D_Domain) (i j : Nat) (x y : Int) : Int := leastI (wrk1 p b i j x y) (moB b i)
theorem mul_in {a c : Int} (h1 : 0 ≤ a) (h2 : a ≤ 12) (h3 : 0 ≤ c) (h4 : c ≤ 20) : 0 ≤ a * c ∧ a * c ≤ 240 := by
 obtain ⟨un, rfl⟩ : ∃ un : Nat, a = (un : Int) := ⟨a.toNat, by omega⟩
 obtain ⟨mn, rfl⟩ : ∃ mn : Nat, c = (mn : Int) := ⟨c.toNat, by omega⟩
 have := Nat.mul_le_mul (show un ≤ 12 by omega) (show mn ≤ 20 by omega)
 have e : ((un : Int)) * (mn : Int) = ((un * mn : Nat) : Int) := by simp
 rw [e]
 omega
theorem UseD.ix {p : D_Project} {b : D_Domain} (h : UseD p b) {i : Nat} (hi : i < p.2.1.length) : ∀ k ∈ moB b i, ∃ n : Nat, k = (n : Int) ∧ n < p.2.1[i].2.2.1.length := fun k hk => by
 obtain ⟨x, y, m, -, -, g3, -, -, -, -, -, -, hs⟩ := dom_at h.dom hi
 have k3 := (h.l.get hi).2.2
 rw [k3] at g3
 cases g3
 unfold subB at hs
 have h1 := List.all_eq_true.1 hs k hk
 unfold hasB at h1
 obtain ⟨z, hz, e⟩ := List.any_eq_true.1 h1
 obtain ⟨n, rfl, hn⟩ := iotaI_mem hz
 rw [eqZ_iff] at e
 exact ⟨n, e.symm, hn⟩
theorem wrk1_at {p : D_Project} (hp : Sm_Project 1099511627776 p) (hpj : projB p = true) (b : D_Domain) {i j n : Nat} (hi : i < p.2.1.length) (hj : j < p.2.2.2.1.length) (hn : n < p.2.1[i].2.2.1.length) (x y : Int) :
  wrk1 p b i j x y (n : Int) = min (ovI (mnB b i) p.2.1[i].2.2.1[n].1 x y) (ovI (mxB b i) p.2.1[i].2.2.1[n].1 x y) * atV false (j : Int) p.2.1[i].2.2.1[n] ∧ 0 ≤ wrk1 p b i j x y (n : Int) ∧ wrk1 p b i j x y (n : Int) ≤ 240 := by
 have e : wrk1 p b i j x y (n : Int) = min (ovI (mnB b i) p.2.1[i].2.2.1[n].1 x y) (ovI (mxB b i) p.2.1[i].2.2.1[n].1 x y) * atV false (j : Int) p.2.1[i].2.2.1[n] := by
  unfold wrk1
  rw [List.getElem?_eq_getElem hi]
  simp only [Int.toNat_natCast]
  rw [List.getElem?_eq_getElem hn]
 obtain ⟨d1, d2, -⟩ := mode_atM hpj hi _ (List.getElem_mem hn)
 obtain ⟨-, -, u1, u2⟩ := usage_atM hp hpj hi hj _ (List.getElem_mem hn)
 obtain ⟨o1, o2⟩ := ovI_in (s := mnB b i) (x := x) (y := y) (show 0 ≤ p.2.1[i].2.2.1[n].1 by omega)
 obtain ⟨o3, o4⟩ := ovI_in (s := mxB b i) (x := x) (y := y) (show 0 ≤ p.2.1[i].2.2.1[n].1 by omega)
 rw [e]
 exact ⟨rfl, mul_in (by omega) (by omega) u1 u2⟩
theorem workM_in {p : D_Project} {b : D_Domain} (h : UseD p b) {i j : Nat} (hi : i < p.2.1.length) (hj : j < p.2.2.2.1.length) (x y : Int) : 0 ≤ workM p b i j x y ∧ workM p b i j x y ≤ 240 := by
 unfold workM
 rcases (leastI_all (wrk1 p b i j x y) (moB b i)).2 with ⟨-, e⟩ | ⟨m, hm, e⟩
 ·rw [e]; omega
 ·obtain ⟨n, rfl, hn⟩ := h.ix hi m hm
  rw [e]
  exact (wrk1_at h.hp (proj_of_dom h.dom) b hi hj hn x y).2
theorem minWork_M {p : D_Project} {b : D_Domain} (h : UseD p b) {i j : Nat} (hi : i < p.2.1.length) (hj : j < p.2.2.2.1.length) {x y : Int} (hx : 0 ≤ x ∧ x ≤ 60) (hy : 0 ≤ y ∧ y ≤ 60) (u : Unit) : impl_Project_minWork (p, b, (i : Int), (j : Int), x, y, u) () = some (workM p b i j x y, ()) := by
 have hpj := proj_of_dom h.dom
 obtain ⟨k1, k2, k3⟩ := h.l.get hi
 obtain ⟨r1, r2, r3, r4, hml⟩ := h.rng hi
 have hix := h.ix hi
 generalize hL : moB b i = L at k3 hml hix
 have l0 := fun A : Type => (fold_list (A := A) (F := impl_Project_minWork_L0) (fun k (s : Bool × Int) => ((k : Int), (L.length : Int), L, p, b, (i : Int), x, y, (j : Int), s.1, s.2, ())) L (fun _ _ => True) (leastS (wrk1 p b i j x y))
  (fun s => Sum.inl (false, (L.length : Int), (L.length : Int), L, p, b, (i : Int), x, y, (j : Int), s.1, s.2, ())) hml
  (fun k s hk _ => by
   obtain ⟨n, en, hn⟩ := hix _ (List.getElem_mem hk)
   obtain ⟨d1, d2, -⟩ := mode_atM hpj hi _ (List.getElem_mem hn)
   obtain ⟨-, ug, u1, u2⟩ := usage_atM h.hp hpj hi hj _ (List.getElem_mem hn)
   obtain ⟨w1, w2, w3⟩ := wrk1_at h.hp hpj b hi hj hn x y
   have o1 := fun u => Overlap_I (mnB b i) p.2.1[i].2.2.1[n].1 x y ⟨r1, r2⟩ ⟨d1, d2⟩ hx hy u
   have o2 := fun u => Overlap_I (mxB b i) p.2.1[i].2.2.1[n].1 x y ⟨r3, r4⟩ ⟨d1, d2⟩ hx hy u
   have hm : mulZ .i64 (minI (ovI (mnB b i) p.2.1[i].2.2.1[n].1 x y) (ovI (mxB b i) p.2.1[i].2.2.1[n].1 x y)) (atV false (j : Int) p.2.1[i].2.2.1[n]) = wrk1 p b i j x y (n : Int) := by
    rw [minI_min, w1]
    rw [w1] at w2 w3
    exact wrap64 (by omega) (by omega)
   have hgk : getI p.2.1[i].2.2.1 (n : Int) = some p.2.1[i].2.2.1[n] := getI_lt hn
   refine ⟨?_, trivial⟩
   obtain ⟨f, v⟩ := s
   unfold impl_Project_minWork_L0 leastS
   simp only [lt_yes hk, if_true, getI_lt hk, getI_lt hi, en, hgk, k1, k2, o1, o2, ug, hm, some_bind']
   rcases tf f with rfl | rfl
   ·simp [-Int.natCast_add, notB, idxN hk hml (Nat.le_refl _)]
   ·rcases tf (ltZ (wrk1 p b i j x y (n : Int)) v) with q | q <;> simp [-Int.natCast_add, q, notB, idxN hk hml (Nat.le_refl _)])
  (fun s _ => by
   unfold impl_Project_minWork_L0
   simp only [lt_no, Bool.false_eq_true, if_false])
  (a := (false, 0)) (s := (0, (L.length : Int), L, p, b, (i : Int), x, y, (j : Int), false, 0, ())) rfl trivial).1
 unfold impl_Project_minWork workM leastI
 rw [hL]
 simp only [k3, lenI_eq, l0, some_bind']
theorem totalWork_M {p : D_Project} {b : D_Domain} (h : UseD p b) {j : Nat} (hj : j < p.2.2.2.1.length) {x y : Int} (hx : 0 ≤ x ∧ x ≤ 60) (hy : 0 ≤ y ∧ y ≤ 60) (u : Unit) : impl_Project_totalWork (p, b, (j : Int), x, y, u) () = some (sumI (fun i => workM p b i j x y) p.2.1.length, ()) := by
 have h6 := (proj_acts (proj_of_dom h.dom)).2
 have l0 := sum_loop (F := impl_Project_totalWork_L0) (fun i s => ((i : Int), (p.2.1.length : Int), p, b, (j : Int), x, y, s, ())) p.2.1.length (fun i => workM p b i j x y)
  (fun s => Sum.inl (false, (p.2.1.length : Int), (p.2.1.length : Int), p, b, (j : Int), x, y, s, ())) (by omega) (fun i hi => by have := workM_in h hi hj x y; omega)
  (fun i s hi s0 s1 => by
   have hw := workM_in h hi hj x y
   have ea : addZ .i64 s (workM p b i j x y) = s + workM p b i j x y := addZ64 (by omega) (by omega)
   unfold impl_Project_totalWork_L0
   simp only [lt_yes hi, if_true, minWork_M h hi hj hx hy, some_bind', ea, idxN hi (Nat.le_refl _) (show p.2.1.length ≤ 1099511627776 by omega)])
  (fun s => by
   unfold impl_Project_totalWork_L0
   simp only [lt_no, Bool.false_eq_true, if_false])
  (s0 := (0, (p.2.1.length : Int), p, b, (j : Int), x, y, 0, ())) rfl
 unfold impl_Project_totalWork
 simp only [lenI_eq, l0, some_bind']
/-- the least usage at a time in every case -/
def cuseM (p : D_Project) (b : D_Domain) (j : Nat) (t : Int) (i : Nat) : Int := if mxB b i ≤ t ∧ t < mnB b i + durM p b i then needM p b j i else 0
theorem cuse_M {p : D_Project} {b : D_Domain} (h : UseD p b) {j : Nat} (hj : j < p.2.2.2.1.length) (t : Int) (u : Unit) : impl_Project_compulsoryUsage (p, b, (j : Int), t, u) () = some (sumI (cuseM p b j t) p.2.1.length, ()) := by
 have hpj := proj_of_dom h.dom
 have h6 := (proj_acts hpj).2
 have hc : ∀ i, i < p.2.1.length → 0 ≤ cuseM p b j t i ∧ cuseM p b j t i ≤ 1000 := fun i hi => by
  have := needM_in h.hp hpj b hi hj
  unfold cuseM
  split <;> omega
 have l0 := sum_loop (F := impl_Project_compulsoryUsage_L0) (fun i s => ((i : Int), (p.2.1.length : Int), p.2.1, p, t, b, (j : Int), s, ())) p.2.1.length (cuseM p b j t)
  (fun s => Sum.inl (false, (p.2.1.length : Int), (p.2.1.length : Int), p.2.1, p, t, b, (j : Int), s, ())) (by omega) hc
  (fun i s hi s0 s1 => by
   obtain ⟨k1, k2, k3⟩ := h.l.get hi
   obtain ⟨r1, r2, r3, r4, -⟩ := h.rng hi
   obtain ⟨d1, d2⟩ := durM_in hpj b hi
   have hn := needM_in h.hp hpj b hi hj
   have ed : addZ .i64 (mnB b i) (durM p b i) = mnB b i + durM p b i := addZ64 (by omega) (by omega)
   have ec : ∀ u, impl_Project_compulsory (p, b, (i : Int), u) () = some ((mxB b i, mnB b i + durM p b i, ()), ()) := fun u => by
    unfold impl_Project_compulsory
    simp only [k1, k2, h.dur hi, some_bind', ed]
   have ea : addZ .i64 s (needM p b j i) = s + needM p b j i := addZ64 (by omega) (by omega)
   have en := (h.need hi hj).1
   have hix := idxN hi (Nat.le_refl _) (show p.2.1.length ≤ 1099511627776 by omega)
   rcases tf (leZ (mxB b i) t) with q | q
   ·have q' : ¬ (mxB b i ≤ t ∧ t < mnB b i + durM p b i) := fun hh => by rw [Bool.eq_false_iff, Ne, leZ_iff] at q; exact q hh.1
    have e0 : cuseM p b j t i = 0 := if_neg q'
    unfold impl_Project_compulsoryUsage_L0
    simp only [lt_yes hi, if_true, getI_lt hi, ec, some_bind', q, Bool.false_eq_true, if_false, hix, e0, Int.add_zero]
   ·rcases tf (ltZ t (mnB b i + durM p b i)) with q2 | q2
    ·have q' : ¬ (mxB b i ≤ t ∧ t < mnB b i + durM p b i) := fun hh => by rw [Bool.eq_false_iff, Ne, ltZ_iff] at q2; exact q2 hh.2
     have e0 : cuseM p b j t i = 0 := if_neg q'
     unfold impl_Project_compulsoryUsage_L0
     simp only [lt_yes hi, if_true, getI_lt hi, ec, some_bind', q, q2, Bool.false_eq_true, if_false, hix, e0, Int.add_zero]
    ·have e0 : cuseM p b j t i = needM p b j i := if_pos ⟨leZ_iff.1 q, ltZ_iff.1 q2⟩
     unfold impl_Project_compulsoryUsage_L0
     simp only [lt_yes hi, if_true, getI_lt hi, ec, some_bind', q, q2, k3, en, ea, hix, e0])
  (fun s => by
   unfold impl_Project_compulsoryUsage_L0
   simp only [lt_no, Bool.false_eq_true, if_false])
  (s0 := (0, (p.2.1.length : Int), p.2.1, p, t, b, (j : Int), 0, ())) rfl
 unfold impl_Project_compulsoryUsage
 simp only [lenI_eq, l0, some_bind']
def consM (p : D_Project) (b : D_Domain) (k i : Nat) : Int := match p.2.1[i]? with | some a => lstV (atV true (k : Int)) a (moB b i) | none => 0
theorem cons_rng {p : D_Project} (hp : Sm_Project 1099511627776 p) (h : projB p = true) {i k : Nat} (hi : i < p.2.1.length) (hk : k < p.2.2.2.2.1.length) : ∀ m ∈ p.2.1[i].2.2.1, 0 ≤ atV true (k : Int) m ∧ atV true (k : Int) m ≤ 20 := fun m hm => by
 obtain ⟨-, -, -, h1, -, h2⟩ := mode_atM h hi m hm
 have hk' : k < m.2.2.1.length := by omega
 have e : atV true (k : Int) m = m.2.2.1[k] := by
  unfold atV
  simp only [if_true, getI_lt hk', Option.getD_some]
 rw [e]
 exact h2 _ (List.getElem_mem hk')
theorem consM_in {p : D_Project} (hp : Sm_Project 1099511627776 p) (h : projB p = true) (b : D_Domain) {i k : Nat} (hi : i < p.2.1.length) (hk : k < p.2.2.2.2.1.length) : 0 ≤ consM p b k i ∧ consM p b k i ≤ 20 := by
 unfold consM
 rw [List.getElem?_eq_getElem hi]
 exact lstV_in _ (by omega) (by omega) (cons_rng hp h hi hk)
theorem stock_M {p : D_Project} {b : D_Domain} (h : UseD p b) {k : Nat} (hk : k < p.2.2.2.2.1.length) (u : Unit) : impl_Project_refutesStock (p, b, (k : Int), u) () = some (ltZ p.2.2.2.2.1[k] (sumI (consM p b k) p.2.1.length), ()) := by
 have hpj := proj_of_dom h.dom
 have h6 := (proj_acts hpj).2
 have l0 := sum_loop (F := impl_Project_refutesStock_L0) (fun i s => ((i : Int), (p.2.1.length : Int), p.2.1, b, s, p, (k : Int), ())) p.2.1.length (consM p b k)
  (fun s => Sum.inl (false, (p.2.1.length : Int), (p.2.1.length : Int), p.2.1, b, s, p, (k : Int), ())) (by omega) (fun i hi => by have := consM_in h.hp hpj b hi hk; omega)
  (fun i s hi s0 s1 => by
   obtain ⟨k1, k2, k3⟩ := h.l.get hi
   have hm := (h.rng hi).2.2.2.2
   have ha := mode_len hpj hi
   have hc := consM_in h.hp hpj b hi hk
   obtain ⟨-, e2⟩ := MinConsumption_both p.2.1[i] (moB b i) (k : Int) (by omega) hm (fun md hmd => cons_atM h.hp hpj hi hk md hmd)
   have e3 : lstV (atV true (k : Int)) p.2.1[i] (moB b i) = consM p b k i := by
    unfold consM
    rw [List.getElem?_eq_getElem hi]
   have ea : addZ .i64 s (consM p b k i) = s + consM p b k i := addZ64 (by omega) (by omega)
   unfold impl_Project_refutesStock_L0
   simp only [lt_yes hi, if_true, getI_lt hi, k3, e2, e3, ea, some_bind', idxN hi (Nat.le_refl _) (show p.2.1.length ≤ 1099511627776 by omega)])
  (fun s => by
   unfold impl_Project_refutesStock_L0
   simp only [lt_no, Bool.false_eq_true, if_false])
  (s0 := (0, (p.2.1.length : Int), p.2.1, b, 0, p, (k : Int), ())) rfl
 unfold impl_Project_refutesStock
 simp only [lenI_eq, l0, some_bind', getI_lt hk]
/-- the capacity of an interval, whatever it is -/
theorem TotalCap_T (l : List D_Step) (x n : Nat) (hl : l.length ≤ 1099511627776) (hx : x + n ≤ 60) : ∃ v, ∀ u, impl_TotalCapacity (l, (x : Int), ((x + n : Nat) : Int), u) () = some (v, ()) := by
 have hx1 : inB (x : Int) 0 60 = true := by rw [inB_iff]; omega
 have hx2 : inB ((x + n : Nat) : Int) 0 60 = true := by rw [inB_iff]; omega
 rcases tf (stepsB l) with h | h
 ·refine ⟨0, fun u => ?_⟩
  unfold impl_TotalCapacity
  simp [StepsOk_impl _ _ hl, h, notB]
 rcases one_loop (F := impl_TotalCapacity_L0) (fun i (s : Int) => (((x + i : Nat) : Int), ((x + n : Nat) : Int), l, s, ())) n (fun _ _ => True)
  (fun o => ∃ v, o = Sum.inl (false, ((x + n : Nat) : Int), ((x + n : Nat) : Int), l, v, ())) (fun _ => False) (by omega)
  (fun i s hi _ => by
   by_cases hi' : i < n
   ·have e : addZ .i64 ((x + i : Nat) : Int) 1 = ((x + (i + 1) : Nat) : Int) := by rw [addZ64 (by omega) (by omega)]; omega
    refine .inl ⟨addZ .i64 s (capV l ((x + i : Nat) : Int)), hi', ?_, trivial⟩
    unfold impl_TotalCapacity_L0
    simp only [lt_yes (show x + i < x + n by omega), if_true, capacityAt_impl_eq, l03At_spec _ _ _ hl, some_bind', e]
   ·obtain rfl : i = n := by omega
    refine .inr (.inl ⟨_, ?_, s, rfl⟩)
    unfold impl_TotalCapacity_L0
    simp only [lt_no, Bool.false_eq_true, if_false])
  (a := 0) (s := ((x : Int), ((x + n : Nat) : Int), l, 0, ())) rfl trivial with ⟨o, e, v, rfl⟩ | ⟨c, -, hc⟩
 ·refine ⟨v, fun u => ?_⟩
  unfold impl_TotalCapacity
  simp only [StepsOk_impl _ _ hl, h, isTime_eq, hx1, hx2, notB_true, Bool.false_eq_true, if_false, some_bind', e]
 ·exact absurd hc id
def capW (l : List D_Step) (x y : Int) : Int := match impl_TotalCapacity (l, x, y, ()) () with | some v => v.1 | none => 0
theorem capW_at (l : List D_Step) (x n : Nat) (hl : l.length ≤ 1099511627776) (hx : x + n ≤ 60) (u : Unit) : impl_TotalCapacity (l, (x : Int), ((x + n : Nat) : Int), u) () = some (capW l (x : Int) ((x + n : Nat) : Int), ()) := by
 obtain ⟨v, e⟩ := TotalCap_T l x n hl hx
 unfold capW
 simp only [e]
end Go.Proofs.YtjhpeeapijjgjaaGreat
