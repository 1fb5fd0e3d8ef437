/-
  Plain laws: numbers read back from their text; a text cut at a byte. No condition.
-/
import Derived.Test.YtbkefganebmlnaaGreatDoorN40
import Derived.Lib.AtoiAllCases
namespace Go.Proofs.YtbkefganebmlnaaGreatDoor
open Go.Abs
set_option linter.unusedVariables false
set_option linter.unusedSimpArgs false

/-! digits -/
def isDig (c : UInt8) : Prop := 48 ≤ c.toNat ∧ c.toNat ≤ 57
def digV (acc : Nat) (l : List UInt8) : Nat := l.foldl (fun a c => a * 10 + (c.toNat - 48)) acc
theorem dig_byte {d : Nat} (h : d < 10) : (UInt8.ofNat (48 + d)).toNat = 48 + d := by
  rw [UInt8.toNat_ofNat']
  omega
theorem dec_digs : ∀ u : Nat, (∀ c ∈ Lib.decDigits u, isDig c) ∧ digV 0 (Lib.decDigits u) = u := by
  intro u
  induction u using Nat.strongRecOn with
  | ind u ih =>
    by_cases h : u < 10
    · rw [Lib.decDigits, dif_pos h]
      have hb := dig_byte h
      refine ⟨fun c hc => ?_, ?_⟩
      · rw [List.mem_singleton.1 hc]
        unfold isDig
        omega
      · simp only [digV, List.foldl_cons, List.foldl_nil, hb]
        omega
    · obtain ⟨h1, h2⟩ := ih (u / 10) (by omega)
      rw [Lib.decDigits, dif_neg h]
      have hb := dig_byte (Nat.mod_lt u (show 0 < 10 by omega))
      refine ⟨fun c hc => ?_, ?_⟩
      · rcases List.mem_append.1 hc with hc | hc
        · exact h1 c hc
        · rw [List.mem_singleton.1 hc]
          unfold isDig
          omega
      · unfold digV at h2 ⊢
        rw [List.foldl_append, h2]
        simp only [List.foldl_cons, List.foldl_nil, hb]
        omega
theorem digs_ne (u : Nat) : Lib.decDigits u ≠ [] := by
  by_cases h : u < 10
  · rw [Lib.decDigits, dif_pos h]; simp
  · rw [Lib.decDigits, dif_neg h]; simp
theorem parse_digs : ∀ (l : List UInt8) (acc : Nat), (∀ c ∈ l, isDig c) → (acc + 1) * 10 ^ l.length ≤ 1000000000 → Lib.parseUint10 acc l = .ok (digV acc l)
  | [], acc, _, _ => rfl
  | c :: l, acc, h, hb => by
    have hc := h c (by simp)
    unfold isDig at hc
    have hp : 1 ≤ 10 ^ l.length := Nat.one_le_pow _ _ (by omega)
    have hb' : (acc + 1) * 10 * 10 ^ l.length ≤ 1000000000 := by
      have e : 10 ^ (c :: l).length = 10 * 10 ^ l.length := by rw [List.length_cons, Nat.pow_succ, Nat.mul_comm]
      rw [e, ← Nat.mul_assoc] at hb
      exact hb
    have h1 : (acc + 1) * 10 ≤ 1000000000 := Nat.le_trans (Nat.le_mul_of_pos_right _ hp) hb'
    have h2 : (acc * 10 + (c.toNat - 48) + 1) * 10 ^ l.length ≤ 1000000000 := Nat.le_trans (Nat.mul_le_mul_right _ (by omega)) hb'
    unfold Lib.parseUint10
    rw [if_pos hc, if_neg (by omega), if_neg (by omega), parse_digs l _ (fun x hx => h x (by simp [hx])) h2]
    rfl
theorem digs_len : ∀ (k u : Nat), u < 10 ^ (k + 1) → (Lib.decDigits u).length ≤ k + 1
  | 0, u, h => by
    rw [Lib.decDigits, dif_pos (by simpa using h)]; simp
  | k + 1, u, h => by
    by_cases h1 : u < 10
    · rw [Lib.decDigits, dif_pos h1]; simp
    · rw [Lib.decDigits, dif_neg h1]
      have := digs_len k (u / 10) (by rw [Nat.pow_succ] at h; omega)
      simp only [List.length_append, List.length_singleton]
      omega
theorem mag_digs {u : Nat} (h : u ≤ 100000) : Lib.parseMag (Lib.decDigits u) = .ok u := by
  obtain ⟨h1, h2⟩ := dec_digs u
  have hl := digs_len 5 u (by omega)
  unfold Lib.parseMag
  rw [if_neg (digs_ne u), parse_digs _ 0 h1 ?_, h2]
  have : 10 ^ (Lib.decDigits u).length ≤ 10 ^ 6 := Nat.pow_le_pow_right (by omega) hl
  omega
theorem atoi_itoa {n : Int} (h1 : -100000 ≤ n) (h2 : n ≤ 100000) : Lib.atoiAll (Lib.itoa n) = .ok n := by
  by_cases hn : n < 0
  · obtain ⟨m, rfl⟩ : ∃ m : Nat, n = -(m : Int) := ⟨n.natAbs, by omega⟩
    have e : Lib.itoa (-(m : Int)) = 45 :: Lib.decDigits m := by
      unfold Lib.itoa
      rw [if_pos hn]
      simp
    rw [e, Lib.atoiAll_minus, mag_digs (by omega)]
    unfold Lib.signed
    simp only
    rw [if_neg (by omega)]
  · obtain ⟨m, rfl⟩ : ∃ m : Nat, n = (m : Int) := ⟨n.toNat, by omega⟩
    have e : Lib.itoa (m : Int) = Lib.decDigits m := by
      unfold Lib.itoa
      rw [if_neg hn]
      simp
    have hm := mag_digs (u := m) (by omega)
    have hd := (dec_digs m).1
    rw [e]
    cases hs : Lib.decDigits m with
    | nil => exact absurd hs (digs_ne m)
    | cons c r =>
      rw [hs] at hm hd
      have hc := hd c (by simp)
      unfold isDig at hc
      rw [Lib.atoiAll_plain c r (by omega) (by omega), hm]
      unfold Lib.signless
      simp only
      rw [if_neg (by omega)]
/-- the number of a text that is a number's own -/
theorem pI_itoa {n : Int} (h1 : -100000 ≤ n) (h2 : n ≤ 100000) : pI (Lib.itoa n) = (n, true) := by
  unfold pI
  rw [atoi_itoa h1 h2]
  simp only
  rw [if_pos ⟨h1, h2, trivial⟩]
theorem pI_cases (s : List UInt8) : (pI s = (0, false) ∧ ∀ n : Int, -100000 ≤ n → n ≤ 100000 → Lib.itoa n ≠ s) ∨ ∃ n : Int, -100000 ≤ n ∧ n ≤ 100000 ∧ Lib.itoa n = s ∧ pI s = (n, true) := by
  by_cases h : ∃ n : Int, -100000 ≤ n ∧ n ≤ 100000 ∧ Lib.itoa n = s
  · obtain ⟨n, h1, h2, rfl⟩ := h
    exact .inr ⟨n, h1, h2, rfl, pI_itoa h1 h2⟩
  · refine .inl ⟨?_, fun n h1 h2 e => h ⟨n, h1, h2, e⟩⟩
    unfold pI
    split
    · rename_i n _
      rw [if_neg fun hh => h ⟨n, hh.1, hh.2.1, hh.2.2⟩]
    · rfl
/-! a text cut at a byte -/
def addH (p : List UInt8) : List (List UInt8) → List (List UInt8)
  | [] => [p]
  | w :: ws => (p ++ w) :: ws
/-- a text cut at each such byte -/
def splR (b : UInt8) : List UInt8 → List (List UInt8)
  | [] => [[]]
  | c :: s => if c = b then [] :: splR b s else addH [c] (splR b s)
theorem splR_ne (b : UInt8) : ∀ s, splR b s ≠ []
  | [] => by simp [splR]
  | c :: s => by
    unfold splR
    split
    · simp
    · cases splR b s <;> simp [addH]
theorem addH_add (p q : List UInt8) (l : List (List UInt8)) : addH p (addH q l) = addH (p ++ q) l := by
  cases l <;> simp [addH]
theorem addH_nil {l : List (List UInt8)} (h : l ≠ []) : addH [] l = l := by
  cases l with
  | nil => exact absurd rfl h
  | cons w ws => rfl
theorem splR_word {b : UInt8} : ∀ {w : List UInt8} (s : List UInt8), b ∉ w → splR b (w ++ s) = addH w (splR b s)
  | [], s, _ => (addH_nil (splR_ne b s)).symm
  | c :: w, s, h => by
    have hc : c ≠ b := fun e => h (by simp [e])
    have e : splR b (c :: (w ++ s)) = if c = b then [] :: splR b (w ++ s) else addH [c] (splR b (w ++ s)) := rfl
    show splR b (c :: (w ++ s)) = _
    rw [e, if_neg hc, splR_word s fun hm => h (by simp [hm]), addH_add]
    rfl
theorem splR_sep {b : UInt8} {w : List UInt8} (s : List UInt8) (h : b ∉ w) : splR b (w ++ b :: s) = w :: splR b s := by
  rw [splR_word _ h]
  show addH w (splR b (b :: s)) = _
  conv => lhs; unfold splR
  rw [if_pos rfl]
  simp [addH]
theorem splR_one {b : UInt8} {w : List UInt8} (h : b ∉ w) : splR b w = [w] := by
  have := splR_word (b := b) (w := w) [] h
  rw [List.append_nil] at this
  rw [this]
  simp [splR, addH]
theorem splR_join {b : UInt8} : ∀ {ws : List (List UInt8)}, ws ≠ [] → (∀ w ∈ ws, b ∉ w) → splR b (Lib.join ws [b]) = ws
  | [], h, _ => absurd rfl h
  | w :: ws, _, h => by
    rw [Lib.join_cons]
    have key : ∀ (ws : List (List UInt8)) (w : List UInt8), b ∉ w → (∀ x ∈ ws, b ∉ x) → splR b (w ++ Lib.joinTail [b] ws) = w :: ws := by
      intro ws
      induction ws with
      | nil =>
        intro w hw _
        have e : Lib.joinTail [b] [] = [] := rfl
        rw [e, List.append_nil, splR_one hw]
      | cons x ws ih =>
        intro w hw hx
        have e : Lib.joinTail [b] (x :: ws) = b :: (x ++ Lib.joinTail [b] ws) := by simp [Lib.joinTail]
        rw [e, splR_sep _ hw, ih x (hx x (by simp)) fun y hy => hx y (by simp [hy])]
    exact key ws w (h w (by simp)) fun x hx => h x (by simp [hx])
theorem splR_len (b : UInt8) : ∀ s : List UInt8, (splR b s).length ≤ s.length + 1
  | [] => by simp [splR]
  | c :: s => by
    have := splR_len b s
    unfold splR
    split
    · simp only [List.length_cons]; omega
    · cases h : splR b s with
      | nil => simp [addH]
      | cons w ws =>
        rw [h] at this
        simp only [addH, List.length_cons] at this ⊢
        omega
theorem splR_mem {b : UInt8} : ∀ {s : List UInt8} {w : List UInt8}, w ∈ splR b s → w.length ≤ s.length ∧ b ∉ w
  | [], w, h => by
    rw [show splR b [] = [[]] from rfl, List.mem_singleton] at h
    subst h
    simp
  | c :: s, w, h => by
    unfold splR at h
    split at h
    · rcases List.mem_cons.1 h with rfl | h
      · simp
      · have := splR_mem h
        simp only [List.length_cons]
        exact ⟨by omega, this.2⟩
    · rename_i hc
      cases hs : splR b s with
      | nil => exact absurd hs (splR_ne b s)
      | cons x xs =>
        rw [hs] at h
        simp only [addH] at h
        rcases List.mem_cons.1 h with rfl | h
        · have := splR_mem (b := b) (s := s) (w := x) (by rw [hs]; simp)
          refine ⟨by simp only [List.length_append, List.length_cons, List.length_nil]; omega, fun hm => ?_⟩
          rcases List.mem_append.1 hm with hm | hm
          · exact hc (List.mem_singleton.1 hm).symm
          · exact this.2 hm
        · have := splR_mem (b := b) (s := s) (w := w) (by rw [hs]; simp [h])
          simp only [List.length_cons]
          exact ⟨by omega, this.2⟩
end Go.Proofs.YtbkefganebmlnaaGreatDoor
