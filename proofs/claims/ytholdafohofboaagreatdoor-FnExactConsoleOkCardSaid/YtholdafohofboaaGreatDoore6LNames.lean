/-
  Plain laws: names with a number, all different; names that are all taken weigh no more than the activities' names; the first name that is free (program), when it is found.
-/
import Derived.Test.YtholdafohofboaaGreatDoore6LFmt
import Derived.Test.YtholdafohofboaaGreatDoore6LProj2
namespace Go.Proofs.YtholdafohofboaaGreatDoor
open Go.Abs
set_option linter.unusedVariables false
set_option linter.unusedSimpArgs false

/-! digits -/
theorem dec_byte : ∀ (u : Nat), ∀ c ∈ Lib.decDigits u, 48 ≤ c.toNat := by
  intro u
  induction u using Nat.strongRecOn with
  | ind u ih =>
    intro c hc
    by_cases h : u < 10
    · rw [dec_small h, List.mem_singleton] at hc
      rw [hc, UInt8.toNat_ofNat', Nat.mod_eq_of_lt (by omega)]
      omega
    · rw [dec_big h] at hc
      rcases List.mem_append.1 hc with hc | hc
      · exact ih (u / 10) (by omega) c hc
      · rw [List.mem_singleton.1 hc, UInt8.toNat_ofNat', Nat.mod_eq_of_lt (by omega)]
        omega
theorem digit_inj {a b : Nat} (ha : a < 10) (hb : b < 10) (h : UInt8.ofNat (48 + a) = UInt8.ofNat (48 + b)) : a = b := by
  have := congrArg UInt8.toNat h
  rw [UInt8.toNat_ofNat', UInt8.toNat_ofNat', Nat.mod_eq_of_lt (by omega), Nat.mod_eq_of_lt (by omega)] at this
  omega
theorem dec_inj : ∀ (u v : Nat), Lib.decDigits u = Lib.decDigits v → u = v := by
  intro u
  induction u using Nat.strongRecOn with
  | ind u ih =>
    intro v h
    by_cases hu : u < 10 <;> by_cases hv : v < 10
    · rw [dec_small hu, dec_small hv] at h
      exact digit_inj hu hv (List.cons.inj h).1
    · rw [dec_small hu, dec_big hv] at h
      have := congrArg List.length h
      have h1 := dec_ne (v / 10)
      simp only [List.length_append, List.length_singleton] at this
      omega
    · rw [dec_small hv, dec_big hu] at h
      have := congrArg List.length h
      have h1 := dec_ne (u / 10)
      simp only [List.length_append, List.length_singleton] at this
      omega
    · rw [dec_big hu, dec_big hv] at h
      obtain ⟨h1, h2⟩ := List.append_inj' h rfl
      have := ih (u / 10) (by omega) (v / 10) h1
      have := digit_inj (Nat.mod_lt _ (by omega)) (Nat.mod_lt _ (by omega)) (List.cons.inj h2).1
      omega
theorem dec_long : ∀ (k u : Nat), 10 ^ k ≤ u → k + 1 ≤ (Lib.decDigits u).length
  | 0, u, _ => by have := dec_ne u; omega
  | k + 1, u, h => by
    have h10 : ¬ u < 10 := by
      have : 1 ≤ 10 ^ k := Nat.pos_of_ne_zero (by simp)
      have : 10 ^ (k + 1) = 10 ^ k * 10 := Nat.pow_succ ..
      omega
    have := dec_long k (u / 10) (by
      have : 10 ^ (k + 1) = 10 ^ k * 10 := Nat.pow_succ ..
      omega)
    rw [dec_big h10, List.length_append, List.length_singleton]
    omega
theorem fmt_nat {k : Nat} (h : k ≤ 100000) : fmtV (k : Int) = Lib.decDigits k := by
  unfold fmtV Lib.itoa
  rw [if_pos (inB_iff.2 (by omega)), if_neg (by omega), Int.toNat_natCast]
theorem fmt_neg {k : Nat} (h1 : 1 ≤ k) (h : k ≤ 100000) : fmtV (-(k : Int)) = 45 :: Lib.decDigits k := by
  unfold fmtV Lib.itoa
  rw [if_pos (inB_iff.2 (by omega)), if_pos (by omega)]
  congr 2
  omega

/-! what names weigh -/
def wsum (w : List UInt8 → Nat) : List (List UInt8) → Nat
  | [] => 0
  | x :: l => w x + wsum w l
theorem wsum_append (w : List UInt8 → Nat) : ∀ x y : List (List UInt8), wsum w (x ++ y) = wsum w x + wsum w y
  | [], y => by simp [wsum]
  | a :: x, y => by simp only [List.cons_append, wsum, wsum_append w x y]; omega
theorem wsum_sub (w : List UInt8 → Nat) : ∀ (n l : List (List UInt8)), n.Nodup → (∀ x ∈ n, x ∈ l) → wsum w n ≤ wsum w l
  | [], l, _, _ => by simp [wsum]
  | x :: n, l, hn, h => by
    obtain ⟨l1, l2, rfl⟩ := List.append_of_mem (h x (by simp))
    rw [List.nodup_cons] at hn
    have := wsum_sub w n (l1 ++ l2) hn.2 fun y hy => by
      have hy2 := h y (by simp [hy])
      rcases List.mem_append.1 hy2 with h1 | h1
      · exact List.mem_append.2 (.inl h1)
      · rcases List.mem_cons.1 h1 with h1 | h1
        · exact absurd (h1 ▸ hy) hn.1
        · exact List.mem_append.2 (.inr h1)
    rw [wsum_append] at this
    rw [wsum_append]
    simp only [wsum]
    omega
theorem wsum_ge (w : List UInt8 → Nat) (c : Nat) : ∀ l : List (List UInt8), (∀ x ∈ l, c ≤ w x) → l.length * c ≤ wsum w l
  | [], _ => by simp [wsum]
  | x :: l, h => by
    have h1 := wsum_ge w c l fun y hy => h y (by simp [hy])
    have h2 := h x (by simp)
    simp only [List.length_cons, wsum, Nat.succ_mul]
    omega
theorem wsum_one : ∀ l : List (List UInt8), wsum (fun _ => 1) l = l.length
  | [] => rfl
  | x :: l => by simp only [wsum, wsum_one l, List.length_cons]; omega
theorem nodup_map_of {α β : Type} (f : α → β) : ∀ (l : List α), l.Nodup → (∀ x ∈ l, ∀ y ∈ l, f x = f y → x = y) → (l.map f).Nodup
  | [], _, _ => by simp
  | x :: l, hl, h => by
    rw [List.nodup_cons] at hl
    rw [List.map_cons, List.nodup_cons]
    refine ⟨fun hm => ?_, nodup_map_of f l hl.2 fun a ha b hb => h a (by simp [ha]) b (by simp [hb])⟩
    obtain ⟨y, hy, e⟩ := List.mem_map.1 hm
    have := h x (by simp) y (by simp [hy]) e.symm
    exact hl.1 (this ▸ hy)

theorem eqS_iff {x y : List UInt8} : eqS x y = true ↔ x = y := by
  unfold eqS
  exact beq_iff_eq
/-! the names that are tried -/
def nnI (r : Nat) : Int := if r < 9223372036854775808 then (r : Int) else (r : Int) - 18446744073709551616
def nmR : Nat → List UInt8
  | 0 => [97]
  | r + 1 => 97 :: fmtV (nnI r)
theorem nnI_succ {r : Nat} (h : r + 1 < 18446744073709551616) : addZ .i64 (nnI r) 1 = nnI (r + 1) := by
  unfold nnI
  by_cases h1 : r + 1 < 9223372036854775808
  · rw [if_pos (by omega), if_pos h1, addZ64 (by omega) (by omega)]
    omega
  · rw [if_neg h1]
    by_cases h2 : r < 9223372036854775808
    · have : r = 9223372036854775807 := by omega
      subst this
      rfl
    · rw [if_neg h2, addZ64 (by omega) (by omega)]
      omega
/-- the activities' names -/
def namesL (p : D_Project) : List (List UInt8) := p.2.1.map fun a => a.1
def takenB (p : D_Project) (s : List UInt8) : Bool := p.2.1.any fun a => eqS a.1 s
theorem taken_iff {p : D_Project} {s : List UInt8} : takenB p s = true ↔ s ∈ namesL p := by
  unfold takenB namesL
  rw [List.any_eq_true, List.mem_map]
  constructor
  · rintro ⟨a, ha, h⟩
    exact ⟨a, ha, eqS_iff.1 h⟩
  · rintro ⟨a, ha, h⟩
    exact ⟨a, ha, eqS_iff.2 h⟩
/-- of so many names that are tried one is free -/
def bigR : Nat := 18446744073709541617
theorem some_free (p : D_Project) (h : wsum (fun s => 1 + s.length) (namesL p) ≤ 1048576) : ∃ r, r ≤ bigR ∧ takenB p (nmR r) = false := by
  refine Classical.byContradiction fun hno => ?_
  have hall : ∀ r, r ≤ bigR → nmR r ∈ namesL p := fun r hr => by
    rcases tf (takenB p (nmR r)) with h1 | h1
    · exact absurd ⟨r, hr, h1⟩ hno
    · exact taken_iff.1 h1
  have hpos : ∀ k, k ≤ 100000 → 97 :: Lib.decDigits k ∈ namesL p := fun k hk => by
    have := hall (k + 1) (by unfold bigR; omega)
    have e : nmR (k + 1) = 97 :: Lib.decDigits k := by
      show 97 :: fmtV (nnI k) = _
      unfold nnI
      rw [if_pos (by omega), fmt_nat hk]
    rwa [e] at this
  have hneg : ∀ k, 10000 ≤ k → k ≤ 100000 → 97 :: 45 :: Lib.decDigits k ∈ namesL p := fun k h0 hk => by
    have := hall (18446744073709551616 - k + 1) (by unfold bigR; omega)
    have e : nmR (18446744073709551616 - k + 1) = 97 :: 45 :: Lib.decDigits k := by
      show 97 :: fmtV (nnI (18446744073709551616 - k)) = _
      unfold nnI
      have hk2 : (((18446744073709551616 - k : Nat) : Int)) - 18446744073709551616 = -(k : Int) := by omega
      rw [if_neg (by omega), hk2, fmt_neg (by omega) hk]
    rwa [e] at this
  let A : List (List UInt8) := (List.range 90001).map fun i => 97 :: Lib.decDigits (10000 + i)
  let B : List (List UInt8) := (List.range 90001).map fun i => 97 :: 45 :: Lib.decDigits (10000 + i)
  have hA : ∀ x ∈ A, x ∈ namesL p ∧ 7 ≤ 1 + x.length := fun x hx => by
    obtain ⟨i, hi, rfl⟩ := List.mem_map.1 hx
    have hi := List.mem_range.1 hi
    refine ⟨hpos _ (by omega), ?_⟩
    have := dec_long 4 (10000 + i) (by omega)
    simp only [List.length_cons]
    omega
  have hB : ∀ x ∈ B, x ∈ namesL p ∧ 8 ≤ 1 + x.length := fun x hx => by
    obtain ⟨i, hi, rfl⟩ := List.mem_map.1 hx
    have hi := List.mem_range.1 hi
    refine ⟨hneg _ (by omega) (by omega), ?_⟩
    have := dec_long 4 (10000 + i) (by omega)
    simp only [List.length_cons]
    omega
  have nA : A.Nodup := nodup_map_of _ _ List.nodup_range fun x _ y _ e => by
    have := dec_inj _ _ (List.cons.inj e).2
    omega
  have nB : B.Nodup := nodup_map_of _ _ List.nodup_range fun x _ y _ e => by
    have := dec_inj _ _ (List.cons.inj (List.cons.inj e).2).2
    omega
  have nAB : (A ++ B).Nodup := List.nodup_append.2 ⟨nA, nB, fun x hx y hy e => by
    obtain ⟨i, hi, rfl⟩ := List.mem_map.1 hx
    obtain ⟨j, hj, rfl⟩ := List.mem_map.1 hy
    have e2 := (List.cons.inj e).2
    have := dec_byte (10000 + i) 45 (by rw [e2]; simp)
    exact absurd this (by decide)⟩
  have h1 := wsum_sub (fun s => 1 + s.length) (A ++ B) (namesL p) nAB fun x hx => by
    rcases List.mem_append.1 hx with hx | hx
    · exact (hA x hx).1
    · exact (hB x hx).1
  rw [wsum_append] at h1
  have h2 := wsum_ge (fun s => 1 + s.length) 7 A fun x hx => (hA x hx).2
  have h3 := wsum_ge (fun s => 1 + s.length) 8 B fun x hx => (hB x hx).2
  have lA : A.length = 90001 := by simp only [A, List.length_map, List.length_range]
  have lB : B.length = 90001 := by simp only [B, List.length_map, List.length_range]
  rw [lA] at h2
  rw [lB] at h3
  omega
/-- of few activities' names one of the first is free -/
theorem some_free_few (p : D_Project) {n : Nat} (hn : p.2.1.length = n) (h : n ≤ 1000) (c : UInt8) : ∃ k, k ≤ n ∧ takenB p (c :: Lib.decDigits k) = false := by
  refine Classical.byContradiction fun hno => ?_
  have hall : ∀ k, k ≤ n → c :: Lib.decDigits k ∈ namesL p := fun r hr => by
    rcases tf (takenB p (c :: Lib.decDigits r)) with h1 | h1
    · exact absurd ⟨r, hr, h1⟩ hno
    · exact taken_iff.1 h1
  let A : List (List UInt8) := (List.range (n + 1)).map fun i => c :: Lib.decDigits i
  have nA : A.Nodup := nodup_map_of _ _ List.nodup_range fun x _ y _ e => dec_inj _ _ (List.cons.inj e).2
  have h1 := wsum_sub (fun _ => 1) A (namesL p) nA fun x hx => by
    obtain ⟨i, hi, rfl⟩ := List.mem_map.1 hx
    exact hall i (by have := List.mem_range.1 hi; omega)
  rw [wsum_one, wsum_one] at h1
  simp only [A, List.length_map, List.length_range, namesL] at h1
  omega
theorem freeName_ex (p : D_Project) (R : Nat) (hR : R ≤ bigR) (hp : p.2.1.length ≤ 1099511627776) (hfree : ∃ r, r ≤ R ∧ takenB p (nmR r) = false) : ∃ q, q ≤ R ∧ takenB p (nmR q) = false ∧ ∀ u, impl_freeName (p, u) () = some (nmR q, ()) := by
  have key := fun A : Type => loopN_count (A := A) (F := impl_freeName_L0) R (fun i s => s = (nnI i, (p, (nmR i, ()))) ∧ ∀ j, j < i → takenB p (nmR j) = true)
    (fun o => ∃ q, q ≤ R ∧ takenB p (nmR q) = false ∧ o = .exit (.inl (false, (nnI q, (p, (nmR q, ())))))) (fun i s hi hI => by
      obtain ⟨rfl, hj⟩ := hI
      have hb : i < 18446744073709551615 := by unfold bigR at hR; omega
      rcases tf (takenB p (nmR i)) with h | h
      · refine ⟨.exit (.inl (false, (nnI i, (p, (nmR i, ()))))), ?_, i, hi, h, rfl⟩
        have h' : leZ 0 (idxOf (fun a => eqS a.1 (nmR i)) p.2.1) = false := by rw [idxOf_any]; exact h
        unfold impl_freeName_L0
        simp only [ActivityIndex_impl _ _ _ hp, some_bind', h', Bool.false_eq_true, if_false]
      · have h' : leZ 0 (idxOf (fun a => eqS a.1 (nmR i)) p.2.1) = true := by rw [idxOf_any]; exact h
        have hlt : i < R := by
          refine Classical.byContradiction fun hn => ?_
          obtain ⟨r, hr, hf⟩ := hfree
          rcases Nat.lt_or_ge r i with h2 | h2
          · rw [hj r h2] at hf; cases hf
          · have : r = i := by omega
            subst this
            rw [h] at hf; cases hf
        have ha : addI [97] (fmtV (nnI i)) = some (97 :: fmtV (nnI i)) := by
          have := fmtV_len (nnI i)
          exact addI_ok (by rw [room_eq]; simp only [List.length_singleton]; omega)
        refine ⟨.norm (nnI (i + 1), (p, (nmR (i + 1), ()))), ?_, hlt, rfl, fun j hj2 => ?_⟩
        · unfold impl_freeName_L0
          simp only [ActivityIndex_impl _ _ _ hp, some_bind', h', if_true, FormatInt_impl, ha, nnI_succ (show i + 1 < 18446744073709551616 by omega)]
          rfl
        · rcases Nat.lt_or_ge j i with h2 | h2
          · exact hj j h2
          · have : j = i := by omega
            subst this
            exact h) (s := (0, (p, ([97], ())))) ⟨rfl, fun j hj => absurd hj (by omega)⟩ (by unfold bigR at hR; unfold big; omega)
  obtain ⟨o, e, q, hq, hf, rfl⟩ := key (Int × (D_Project × ((List UInt8) × Unit)))
  refine ⟨q, hq, hf, fun u => ?_⟩
  unfold impl_freeName
  simp only [e, some_bind']
end Go.Proofs.YtholdafohofboaaGreatDoor
