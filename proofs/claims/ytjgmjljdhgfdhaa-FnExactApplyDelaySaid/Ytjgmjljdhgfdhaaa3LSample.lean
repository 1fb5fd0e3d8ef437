/-
  Plain laws: the steps made less, sampled time by time, are the steps made less one by one. Condition: the steps are valid.
-/
import Derived.Test.Ytjgmjljdhgfdhaaa3LSteps
namespace Go.Proofs.Ytjgmjljdhgfdhaa
open Go.Abs
set_option linter.unusedVariables false
set_option linter.unusedSimpArgs false

/-- a time sampled -/
def smpStep (c : Int → Int) (out : List D_Step) (t : Nat) : List D_Step := match out.getLast? with
  | none => if t = 0 then out ++ [((t : Int), c t, ())] else out
  | some r => if t = 0 ∨ c t ≠ r.2.1 then out ++ [((t : Int), c t, ())] else out
def smpS (c : Int → Int) (n : Nat) : List D_Step := foldN (fun t out => smpStep c out t) n 0 []
theorem foldN_last {α : Type} (f : Nat → α → α) : ∀ (k i : Nat) (a : α), foldN f (k + 1) i a = f (i + k) (foldN f k i a)
  | 0, i, a => rfl
  | k + 1, i, a => by
    show foldN f (k + 1) (i + 1) (f i a) = _
    rw [foldN_last f k (i + 1) (f i a), show i + 1 + k = i + (k + 1) by omega]
    rfl
theorem smpS_succ (c : Int → Int) (n : Nat) : smpS c (n + 1) = smpStep c (smpS c n) n := by
  unfold smpS
  rw [foldN_last]
  simp
abbrev Srt (l : List D_Step) : Prop := l.Pairwise fun r s => r.1 < s.1
theorem last_cap : ∀ (l : List D_Step) (n : Int), l.foldl (fun _ (s : D_Step) => s.2.1) n = match l.getLast? with | none => n | some r => r.2.1
  | [], n => rfl
  | [s], n => rfl
  | s :: r :: l, n => by
    rw [List.foldl_cons, last_cap (r :: l)]
    rw [List.getLast?_cons_cons]
    cases h : (r :: l).getLast? with
    | none => simp at h
    | some x => rfl
theorem capF_filter (t : Int) : ∀ (l : List D_Step) (n : Int), capF t n l = (l.filter fun s => leZ s.1 t).foldl (fun _ (s : D_Step) => s.2.1) n
  | [], n => rfl
  | s :: l, n => by
    unfold capF
    rw [List.foldl_cons]
    have := capF_filter t l (if leZ s.1 t = true then s.2.1 else n)
    unfold capF at this
    rw [this, List.filter_cons]
    rcases tf (leZ s.1 t) with h | h
    · simp [h]
    · simp [h]
theorem capS_last (l : List D_Step) (t : Int) : capS l t = match (l.filter fun s => leZ s.1 t).getLast? with | none => 0 | some r => r.2.1 := by
  show capF t 0 l = _
  rw [capF_filter, last_cap]
theorem lowS_snoc (l : List D_Step) (s : D_Step) : lowS (l ++ [s]) = lowStep (lowS l) s := by
  unfold lowS
  rw [List.foldl_append]
  rfl
theorem low_last : ∀ (l : List D_Step), (lowS l).getLast?.map (·.2.1) = l.getLast?.map (·.2.1) := by
  have key : ∀ (l out : List D_Step), (l.foldl lowStep out).getLast?.map (·.2.1) = match l.getLast? with | none => out.getLast?.map (·.2.1) | some r => some r.2.1 := by
    intro l
    induction l with
    | nil => intro out; rfl
    | cons s l ih =>
      intro out
      rw [List.foldl_cons, ih]
      cases hl : l.getLast? with
      | none =>
        obtain rfl : l = [] := by simpa using hl
        show (lowStep out s).getLast?.map _ = some s.2.1
        unfold lowStep
        cases ho : out.getLast? with
        | none => simp
        | some r =>
          simp only
          rcases tf (eqZ r.2.1 s.2.1) with h | h
          · rw [if_neg (by rw [h]; exact Bool.false_ne_true)]
            simp
          · rw [if_pos h, ho]
            rw [eqZ_iff] at h
            simp [h]
      | some r =>
        have : (s :: l).getLast? = some r := by
          cases l with
          | nil => simp at hl
          | cons a l => rw [List.getLast?_cons_cons]; exact hl
        rw [this]
  intro l
  have := key l []
  unfold lowS
  rw [this]
  cases l.getLast? <;> rfl
theorem filter_split (T : Int) : ∀ (l : List D_Step), Srt l → (l.filter fun s => ltZ s.1 (T + 1)) = (l.filter fun s => ltZ s.1 T) ++ (l.filter fun s => eqZ s.1 T)
  | [], _ => rfl
  | s :: l, h => by
    have h1 := List.pairwise_cons.1 h
    have ih := filter_split T l h1.2
    rcases Int.lt_trichotomy s.1 T with c | c | c
    · have e1 : ltZ s.1 (T + 1) = true := by rw [ltZ_iff]; omega
      have e2 : ltZ s.1 T = true := by rw [ltZ_iff]; omega
      have e3 : eqZ s.1 T = false := by rw [Bool.eq_false_iff, Ne, eqZ_iff]; omega
      simp only [List.filter_cons, e1, e2, e3, if_true, Bool.false_eq_true, if_false, ih, List.cons_append]
    · have e1 : ltZ s.1 (T + 1) = true := by rw [ltZ_iff]; omega
      have e2 : ltZ s.1 T = false := by rw [Bool.eq_false_iff, Ne, ltZ_iff]; omega
      have e3 : eqZ s.1 T = true := by rw [eqZ_iff]; exact c
      have n1 : (l.filter fun s => ltZ s.1 (T + 1)) = [] := List.filter_eq_nil_iff.2 fun r hr => by
        have := h1.1 r hr
        rw [ltZ_iff]; omega
      have n2 : (l.filter fun s => ltZ s.1 T) = [] := List.filter_eq_nil_iff.2 fun r hr => by
        have := h1.1 r hr
        rw [ltZ_iff]; omega
      have n3 : (l.filter fun s => eqZ s.1 T) = [] := List.filter_eq_nil_iff.2 fun r hr => by
        have := h1.1 r hr
        rw [eqZ_iff]; omega
      simp only [List.filter_cons, e1, e2, e3, if_true, Bool.false_eq_true, if_false, n1, n2, n3, List.nil_append]
    · have e1 : ltZ s.1 (T + 1) = false := by rw [Bool.eq_false_iff, Ne, ltZ_iff]; omega
      have e2 : ltZ s.1 T = false := by rw [Bool.eq_false_iff, Ne, ltZ_iff]; omega
      have e3 : eqZ s.1 T = false := by rw [Bool.eq_false_iff, Ne, eqZ_iff]; omega
      simp only [List.filter_cons, e1, e2, e3, Bool.false_eq_true, if_false, ih]
theorem filter_eq_cases (T : Int) : ∀ (l : List D_Step), Srt l → (l.filter fun s => eqZ s.1 T) = [] ∨ ∃ s ∈ l, s.1 = T ∧ (l.filter fun s => eqZ s.1 T) = [s]
  | [], _ => .inl rfl
  | s :: l, h => by
    have h1 := List.pairwise_cons.1 h
    by_cases c : s.1 = T
    · have e3 : eqZ s.1 T = true := by rw [eqZ_iff]; exact c
      have n3 : (l.filter fun s => eqZ s.1 T) = [] := List.filter_eq_nil_iff.2 fun r hr => by
        have := h1.1 r hr
        rw [eqZ_iff]; omega
      exact .inr ⟨s, List.mem_cons_self .., c, by simp only [List.filter_cons, e3, if_true, n3]⟩
    · have e3 : eqZ s.1 T = false := by rw [Bool.eq_false_iff, Ne, eqZ_iff]; exact c
      rcases filter_eq_cases T l h1.2 with h | ⟨r, hr, h2, h3⟩
      · exact .inl (by simp only [List.filter_cons, e3, Bool.false_eq_true, if_false, h])
      · exact .inr ⟨r, List.mem_cons_of_mem _ hr, h2, by simp only [List.filter_cons, e3, Bool.false_eq_true, if_false, h3]⟩
/-- sampling what sorted steps say gives the steps back, those that change nothing left out -/
theorem sample_low (S : List D_Step) (c : Int → Int) (hS : Srt S) (h0 : ∃ s ∈ S, s.1 = 0) (hb : ∀ s ∈ S, 0 ≤ s.1 ∧ s.1 ≤ 60) (hc : ∀ t : Nat, t ≤ 60 → c t = capS S t) : smpS c 61 = lowS S := by
  have key : ∀ T : Nat, T ≤ 61 → smpS c T = lowS (S.filter fun s => ltZ s.1 (T : Int)) := by
    intro T
    induction T with
    | zero =>
      intro _
      have : (S.filter fun s => ltZ s.1 ((0 : Nat) : Int)) = [] := List.filter_eq_nil_iff.2 fun r hr => by
        have := (hb r hr).1
        rw [ltZ_iff]; omega
      rw [this]
      rfl
    | succ T ih =>
      intro hT
      rw [smpS_succ, ih (by omega)]
      have hsp := filter_split (T : Int) S hS
      have hle : (S.filter fun s => leZ s.1 (T : Int)) = S.filter fun s => ltZ s.1 ((T : Int) + 1) := List.filter_congr fun s _ => by
        rw [Bool.eq_iff_iff, leZ_iff, ltZ_iff]
        omega
      have hcT := hc T (by omega)
      rw [capS_last, hle, hsp] at hcT
      rw [show ((T + 1 : Nat) : Int) = (T : Int) + 1 by omega, hsp]
      have hll := low_last (S.filter fun s => ltZ s.1 (T : Int))
      rcases filter_eq_cases (T : Int) S hS with h | ⟨s, hs, h1, h2⟩
      · rw [h, List.append_nil] at hcT ⊢
        have hT0 : T ≠ 0 := fun e => by
          obtain ⟨r, hr, hr0⟩ := h0
          have : r ∈ S.filter fun s => eqZ s.1 (T : Int) := List.mem_filter.2 ⟨hr, by rw [eqZ_iff, hr0, e]; rfl⟩
          rw [h] at this
          cases this
        unfold smpStep
        cases hl : (S.filter fun s => ltZ s.1 (T : Int)).getLast? with
        | none =>
          rw [hl] at hll
          cases hm : (lowS (S.filter fun s => ltZ s.1 (T : Int))).getLast? with
          | none => rw [if_neg hT0]
          | some r => rw [hm] at hll; cases hll
        | some r =>
          rw [hl] at hll hcT
          cases hm : (lowS (S.filter fun s => ltZ s.1 (T : Int))).getLast? with
          | none => rw [hm] at hll; cases hll
          | some r' =>
            rw [hm] at hll
            have hll : r'.2.1 = r.2.1 := Option.some.inj hll
            simp only at hcT ⊢
            rw [if_neg (by rw [hcT, hll]; simp [hT0])]
      · rw [h2] at hcT ⊢
        rw [lowS_snoc]
        simp only [List.getLast?_append, List.getLast?_singleton, Option.some_or] at hcT
        have hse : s = ((T : Int), c T, ()) := by
          obtain ⟨x, y, u⟩ := s
          simp only at h1 hcT
          rw [h1, hcT]
        unfold smpStep lowStep
        cases hm : (lowS (S.filter fun s => ltZ s.1 (T : Int))).getLast? with
        | none =>
          have hT0 : T = 0 := by
            rcases Nat.eq_zero_or_pos T with e | e
            · exact e
            · exfalso
              obtain ⟨r, hr, hr0⟩ := h0
              have hm1 : r ∈ S.filter fun s => ltZ s.1 (T : Int) := List.mem_filter.2 ⟨hr, by rw [ltZ_iff]; omega⟩
              rw [hm] at hll
              cases hl : (S.filter fun s => ltZ s.1 (T : Int)).getLast? with
              | none => rw [List.getLast?_eq_none_iff] at hl; rw [hl] at hm1; cases hm1
              | some r => rw [hl] at hll; cases hll
          simp only
          rw [if_pos hT0, ← hse]
        | some r =>
          have hT0 : T ≠ 0 := fun e => by
            have : (S.filter fun s => ltZ s.1 (T : Int)) = [] := List.filter_eq_nil_iff.2 fun r hr => by
              have := (hb r hr).1
              rw [ltZ_iff, e]; omega
            rw [this] at hm
            cases hm
          simp only
          rw [hcT]
          rcases tf (eqZ r.2.1 s.2.1) with e | e
          · have e' := e
            rw [Bool.eq_false_iff, Ne, eqZ_iff] at e'
            rw [if_neg (show ¬ eqZ r.2.1 s.2.1 = true by rw [e]; exact Bool.false_ne_true), if_pos (Or.inr fun h => e' h.symm)]
            rw [hcT] at hse
            rw [← hse]
          · rw [if_pos e]
            rw [eqZ_iff] at e
            rw [if_neg (by simp [hT0, e])]
  have h := key 61 (Nat.le_refl _)
  have hall : (S.filter fun s => ltZ s.1 ((61 : Nat) : Int)) = S := List.filter_eq_self.2 fun s hs => by
    have := (hb s hs).2
    rw [ltZ_iff]; omega
  rw [hall] at h
  exact h
/-- valid steps -/
structure StpI (l : List D_Step) : Prop where
  srt : Srt l
  first : ∃ s ∈ l, s.1 = 0
  bd : ∀ s ∈ l, 0 ≤ s.1 ∧ s.1 ≤ 60
theorem capF_skip (t : Int) (q : D_Step → Bool) : ∀ (l : List D_Step) (n : Int), (∀ s ∈ l, q s = false → leZ s.1 t = false) → capF t n (l.filter q) = capF t n l
  | [], n, _ => rfl
  | s :: l, n, h => by
    have ih := fun n => capF_skip t q l n fun r hr => h r (List.mem_cons_of_mem _ hr)
    unfold capF at ih ⊢
    rcases tf (q s) with e | e
    · have := h s (List.mem_cons_self ..) e
      simp only [List.filter_cons, e, Bool.false_eq_true, if_false, List.foldl_cons, this, ih]
    · simp only [List.filter_cons, e, if_true, List.foldl_cons, ih]
theorem capF_none (t : Int) : ∀ (l : List D_Step) (n : Int), (∀ s ∈ l, leZ s.1 t = false) → capF t n l = n
  | [], n, _ => rfl
  | s :: l, n, h => by
    have ih := capF_none t l n fun r hr => h r (List.mem_cons_of_mem _ hr)
    unfold capF at ih ⊢
    simp only [List.foldl_cons, h s (List.mem_cons_self ..), Bool.false_eq_true, if_false, ih]
theorem capF_append (t n : Int) (x y : List D_Step) : capF t n (x ++ y) = capF t (capF t n x) y := by
  unfold capF
  rw [List.foldl_append]
theorem capF_same (t t' : Int) : ∀ (l : List D_Step) (n : Int), (∀ s ∈ l, leZ s.1 t = leZ s.1 t') → capF t n l = capF t' n l
  | [], n, _ => rfl
  | s :: l, n, h => by
    have ih := fun n => capF_same t t' l n fun r hr => h r (List.mem_cons_of_mem _ hr)
    unfold capF at ih ⊢
    simp only [List.foldl_cons, h s (List.mem_cons_self ..), ih]
theorem split_at (a : Int) : ∀ (l : List D_Step), Srt l → l = (l.filter fun s => leZ s.1 a) ++ l.filter fun s => ltZ a s.1
  | [], _ => rfl
  | s :: l, h => by
    have h1 := List.pairwise_cons.1 h
    have ih := split_at a l h1.2
    by_cases c : s.1 ≤ a
    · have e1 : leZ s.1 a = true := by rw [leZ_iff]; exact c
      have e2 : ltZ a s.1 = false := by rw [Bool.eq_false_iff, Ne, ltZ_iff]; omega
      simp only [List.filter_cons, e1, e2, if_true, Bool.false_eq_true, if_false, List.cons_append]
      rw [← ih]
    · have e1 : leZ s.1 a = false := by rw [Bool.eq_false_iff, Ne, leZ_iff]; exact c
      have e2 : ltZ a s.1 = true := by rw [ltZ_iff]; omega
      have n1 : (l.filter fun s => leZ s.1 a) = [] := List.filter_eq_nil_iff.2 fun r hr => by
        have := h1.1 r hr
        rw [leZ_iff]; omega
      have n2 : (l.filter fun s => ltZ a s.1) = l := List.filter_eq_self.2 fun r hr => by
        have := h1.1 r hr
        rw [ltZ_iff]; omega
      simp only [List.filter_cons, e1, e2, if_true, Bool.false_eq_true, if_false, n1, n2, List.nil_append]
theorem capF_map (t n : Int) : ∀ (l : List D_Step) (x : Int), capF t (maxI 0 (subZ .i64 x n)) (l.map fun s => (s.1, maxI 0 (subZ .i64 s.2.1 n), ())) = maxI 0 (subZ .i64 (capF t x l) n)
  | [], x => rfl
  | s :: l, x => by
    have ih := fun x => capF_map t n l x
    unfold capF at ih ⊢
    rw [List.map_cons, List.foldl_cons, List.foldl_cons]
    rcases tf (leZ s.1 t) with h | h
    · simp only [h, Bool.false_eq_true, if_false, ih]
    · simp only [h, if_true, ih]
def cutC (l : List D_Step) (a n t : Int) : Int := if leZ a t = true then maxI (subZ .i64 (capS l t) n) 0 else capS l t
theorem new_cap {l : List D_Step} (h : StpI l) (a n t : Int) : capS (newS l a n) t = cutC l a n t := by
  unfold newS cutC
  have hh : ∀ x : List D_Step, capS x t = capF t 0 x := fun _ => rfl
  rw [hh, capF_append]
  rcases tf (leZ a t) with e | e
  · rw [if_neg (by rw [e]; exact Bool.false_ne_true)]
    have e' := e
    rw [Bool.eq_false_iff, Ne, leZ_iff] at e'
    rw [capF_skip t _ l 0 fun s _ hs => by
      rw [Bool.eq_false_iff, Ne, ltZ_iff] at hs
      rw [Bool.eq_false_iff, Ne, leZ_iff]
      omega]
    refine capF_none t _ _ fun s hs => ?_
    rcases List.mem_cons.1 hs with rfl | hs
    · exact e
    · obtain ⟨r, hr, rfl⟩ := List.mem_map.1 hs
      have := (List.mem_filter.1 hr).2
      rw [ltZ_iff] at this
      rw [Bool.eq_false_iff, Ne, leZ_iff]
      show ¬ r.1 ≤ t
      omega
  · rw [if_pos e]
    have e' := e
    rw [leZ_iff] at e'
    have hm : ∀ x : Int, capF t x ((a, maxI 0 (subZ .i64 (capS l a) n), ()) :: (l.filter (fun s => ltZ a s.1)).map fun s => (s.1, maxI 0 (subZ .i64 s.2.1 n), ())) = capF t (maxI 0 (subZ .i64 (capS l a) n)) ((l.filter (fun s => ltZ a s.1)).map fun s => (s.1, maxI 0 (subZ .i64 s.2.1 n), ())) := fun x => by
      unfold capF
      rw [List.foldl_cons]
      simp only [e, if_true]
    rw [hm, capF_map]
    have hsp := split_at a l h.srt
    have h1 : capS l t = capF t (capS l a) (l.filter fun s => ltZ a s.1) := by
      have g1 : capF t 0 (l.filter fun s => leZ s.1 a) = capF a 0 (l.filter fun s => leZ s.1 a) := capF_same t a _ 0 fun s hs => by
        have := (List.mem_filter.1 hs).2
        rw [this, leZ_iff]
        rw [leZ_iff] at this
        omega
      have g2 : capF a 0 (l.filter fun s => leZ s.1 a) = capF a 0 l := capF_skip a _ l 0 fun s _ hs => hs
      show capF t 0 l = _
      conv => lhs; rw [hsp]
      rw [capF_append, g1, g2]
    rw [h1, maxI_swap]
theorem new_ok {l : List D_Step} (h : StpI l) {a : Int} (n : Int) (ha : 0 ≤ a ∧ a ≤ 60) : StpI (newS l a n) := by
  have hm : ∀ s ∈ (l.filter (fun s => ltZ a s.1)).map (fun s => ((s.1, maxI 0 (subZ .i64 s.2.1 n), ()) : D_Step)), a < s.1 ∧ s.1 ≤ 60 := fun s hs => by
    obtain ⟨r, hr, rfl⟩ := List.mem_map.1 hs
    obtain ⟨h1, h2⟩ := List.mem_filter.1 hr
    rw [ltZ_iff] at h2
    exact ⟨h2, (h.bd r h1).2⟩
  refine ⟨?_, ?_, fun s hs => ?_⟩
  · unfold newS
    refine List.pairwise_append.2 ⟨h.srt.filter _, List.pairwise_cons.2 ⟨fun s hs => (hm s hs).1, ?_⟩, fun r hr s hs => ?_⟩
    · exact List.pairwise_map.2 (h.srt.filter _)
    · have h1 := (List.mem_filter.1 hr).2
      rw [ltZ_iff] at h1
      rcases List.mem_cons.1 hs with rfl | hs
      · exact h1
      · exact Int.lt_trans h1 (hm s hs).1
  · by_cases e : a = 0
    · exact ⟨_, by unfold newS; exact List.mem_append_right _ (List.mem_cons_self ..), e⟩
    · obtain ⟨s, hs, h0⟩ := h.first
      exact ⟨s, by unfold newS; exact List.mem_append_left _ (List.mem_filter.2 ⟨hs, by rw [ltZ_iff]; omega⟩), h0⟩
  · unfold newS at hs
    rcases List.mem_append.1 hs with hs | hs
    · exact h.bd s (List.mem_filter.1 hs).1
    · rcases List.mem_cons.1 hs with rfl | hs
      · exact ha
      · have := hm s hs
        omega
theorem sample_new {l : List D_Step} (h : StpI l) {a : Int} (n : Int) (ha : 0 ≤ a ∧ a ≤ 60) : smpS (cutC l a n) 61 = lowS (newS l a n) :=
  have hn := new_ok h n ha
  sample_low _ _ hn.srt hn.first hn.bd fun t _ => (new_cap h a n t).symm
theorem smp_len (c : Int → Int) (out : List D_Step) (t : Nat) : (smpStep c out t).length ≤ out.length + 1 := by
  unfold smpStep
  split <;> split <;> simp
theorem Reduced_A (l : List D_Step) (a n : Int) (u : Unit) (hl : l.length ≤ 1099511627776) : impl_reduced (l, a, n, u) () = some (smpS (cutC l a n) 61, ()) := by
  unfold impl_reduced
  have l0 := fun A : Type => (fold_loop (A := A) (F := impl_reduced_L0) (fun t out => ((t : Int), l, a, n, out, ())) 61 (fun t out => out.length ≤ t ∧ (0 < t → 0 < out.length)) (fun t out => smpStep (cutC l a n) out t) (fun out => Sum.inl (false, ((61 : Nat) : Int), l, a, n, out, ())) (by omega)
    (fun t out ht hI => by
      have hlt : ltZ (t : Int) 61 = true := by rw [ltZ_iff]; omega
      have hc : ∀ u, impl_capacityAt (l, (t : Int), u) () = some (capS l t, ()) := fun u => by rw [capAt_A]; exact l03At_A l t u hl
      have hn : (if leZ a (t : Int) = true then maxI (subZ .i64 (capS l t) n) 0 else capS l t) = cutC l a n t := rfl
      refine ⟨?_, ?_⟩
      · unfold impl_reduced_L0 smpStep
        simp only [hlt, if_true, hc, some_bind']
        have hv : (if leZ a (t : Int) = true then maxI (subZ .i64 (capS l t) n) 0 else capS l t) = cutC l a n t := rfl
        have hix : addZ .i64 (t : Int) 1 = ((t + 1 : Nat) : Int) := idxN (n := 61) ht (by omega) (Nat.le_refl _)
        generalize cutC l a n t = v at hv
        rcases Nat.eq_zero_or_pos t with t0 | t0
        · subst t0
          obtain rfl : out = [] := List.eq_nil_of_length_eq_zero (by omega)
          have ez : eqZ ((0 : Nat) : Int) 0 = true := rfl
          have hs : smpStep (fun _ => v) [] 0 = [(((0 : Nat) : Int), v, ())] := rfl
          rcases tf (leZ a ((0 : Nat) : Int)) with e | e
          · rw [if_neg (by rw [e]; exact Bool.false_ne_true)] at hv
            simp only [e, Bool.false_eq_true, if_false, if_true, some_bind', ez, hv, addOneA ([] : List D_Step) _ (by simp), hix, List.nil_append]
            rfl
          · rw [if_pos e] at hv
            simp only [e, if_true, some_bind', ez, hv, addOneA ([] : List D_Step) _ (by simp), hix, List.nil_append]
            rfl
        · obtain ⟨r, h1, h2⟩ := last_at (hI.2 t0) (by omega)
          have ez : eqZ (t : Int) 0 = false := by rw [Bool.eq_false_iff, Ne, eqZ_iff]; omega
          have hs : (match out.getLast? with
              | none => if t = 0 then out ++ [((t : Int), v, ())] else out
              | some r => if t = 0 ∨ v ≠ r.2.1 then out ++ [((t : Int), v, ())] else out) = if eqZ v r.2.1 = true then out else out ++ [((t : Int), v, ())] := by
            rw [h1]
            simp only
            rcases tf (eqZ v r.2.1) with q | q
            · have q' := q
              rw [Bool.eq_false_iff, Ne, eqZ_iff] at q'
              rw [if_pos (Or.inr q'), if_neg (by rw [q]; exact Bool.false_ne_true)]
            · have q' := q
              rw [eqZ_iff] at q'
              rw [if_neg (by simp [q']; omega), if_pos q]
          rw [hs]
          rcases tf (leZ a (t : Int)) with e | e
          · rw [if_neg (by rw [e]; exact Bool.false_ne_true)] at hv
            simp only [e, Bool.false_eq_true, if_false, if_true, some_bind', ez, hv, h2]
            rcases tf (eqZ v r.2.1) with q | q
            · simp only [q, notB_false, Bool.false_eq_true, if_false, if_true, some_bind', addOneA out _ (show out.length ≤ 1048576 by omega), hix]
            · simp only [q, notB_true, Bool.false_eq_true, if_false, if_true, some_bind', hix]
          · rw [if_pos e] at hv
            simp only [e, if_true, Bool.false_eq_true, if_false, some_bind', ez, hv, h2]
            rcases tf (eqZ v r.2.1) with q | q
            · simp only [q, notB_false, Bool.false_eq_true, if_false, if_true, some_bind', addOneA out _ (show out.length ≤ 1048576 by omega), hix]
            · simp only [q, notB_true, Bool.false_eq_true, if_false, if_true, some_bind', hix]
      · refine ⟨Nat.le_trans (smp_len _ _ _) (by omega), fun _ => ?_⟩
        unfold smpStep
        rcases Nat.eq_zero_or_pos t with e | e
        · split <;> simp [e]
        · have := hI.2 e
          split <;> split <;> simp <;> omega)
    (fun out _ => by
      unfold impl_reduced_L0
      have : ltZ ((61 : Nat) : Int) 61 = false := rfl
      simp only [this, Bool.false_eq_true, if_false])
    (a := []) ⟨Nat.le_refl _, fun h => absurd h (by omega)⟩).1
  have e0 : (((0 : Nat) : Int), l, a, n, ([] : List D_Step), ()) = ((0 : Int), l, a, n, ([] : List D_Step), ()) := rfl
  rw [e0] at l0
  simp only [l0, some_bind']
  rfl
end Go.Proofs.Ytjgmjljdhgfdhaa
