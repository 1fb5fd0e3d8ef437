/-
  Plain laws: the domain of the schedules for which a clause is false, in the program and in the reference. Conditions: no list is longer than 2 to the 40, none of the project longer than 2 to the 20.
-/
import Derived.Test.YtjgmjljdhgfdhaaGreatj4LInit
import Derived.Test.YtjgmjljdhgfdhaaGreatj4LRestrict
namespace Go.Proofs.YtjgmjljdhgfdhaaGreat
open Go.Abs
set_option linter.unusedVariables false
set_option linter.unusedSimpArgs false

theorem mem_modify1 {α : Type} {f : α → α} {y : α} : ∀ {l : List α} {i : Nat}, y ∈ l.modify i f → y ∈ l ∨ ∃ x ∈ l, y = f x
  | [], i, h => by simp at h
  | a :: l, 0, h => by
    simp only [List.modify_zero_cons, List.mem_cons] at h
    rcases h with h | h
    · exact .inr ⟨a, by simp, h⟩
    · exact .inl (by simp [h])
  | a :: l, i + 1, h => by
    simp only [List.modify_succ_cons, List.mem_cons] at h
    rcases h with h | h
    · exact .inl (by simp [h])
    · rcases mem_modify1 h with h | ⟨x, h1, h2⟩
      · exact .inl (by simp [h])
      · exact .inr ⟨x, by simp [h1], h2⟩
/-- small lists, modes without an element twice -/
def DomOk (b : D_Domain) : Prop := b.1.length ≤ 6 ∧ b.2.1.length ≤ 6 ∧ b.2.2.1.length ≤ 6 ∧ ∀ m ∈ b.2.2.1, m.Nodup ∧ m.length ≤ 6
theorem DomOk.sm {b : D_Domain} (h : DomOk b) {B : Nat} (hB : 6 ≤ B) : Sm_Domain B b :=
  ⟨⟨by have := h.1; omega, fun _ _ => trivial⟩, ⟨by have := h.2.1; omega, fun _ _ => trivial⟩, ⟨by have := h.2.2.1; omega, fun m hm => ⟨by have := (h.2.2.2 m hm).2; omega, fun _ _ => trivial⟩⟩, trivial⟩
theorem DomOk.modes {b : D_Domain} (h : DomOk b) (a : Int) (q : Int → Bool) : ∀ m ∈ setI b.2.2.1 a (fun m => m.filter q), m.Nodup ∧ m.length ≤ 6 := fun m hm => by
  rcases mem_modify1 hm with hm | ⟨x, hx, rfl⟩
  · exact h.2.2.2 m hm
  · obtain ⟨h1, h2⟩ := h.2.2.2 x hx
    exact ⟨h1.filter _, Nat.le_trans (List.length_filter_le _ _) h2⟩
theorem DomOk.rest {b : D_Domain} (h : DomOk b) (l : D_Literal) : DomOk (restV b l) := by
  obtain ⟨h1, h2, h3, h4⟩ := h
  unfold restV
  split
  · split
    · exact ⟨by rw [setI_length]; exact h1, h2, h3, h4⟩
    · split
      · exact ⟨h1, by rw [setI_length]; exact h2, h3, h4⟩
      · split
        · exact ⟨h1, h2, by rw [setI_length]; exact h3, DomOk.modes ⟨h1, h2, h3, h4⟩ _ _⟩
        · split
          · exact ⟨h1, h2, by rw [setI_length]; exact h3, DomOk.modes ⟨h1, h2, h3, h4⟩ _ _⟩
          · exact ⟨h1, h2, h3, h4⟩
  · exact ⟨h1, h2, h3, h4⟩
theorem iotaI_nodup (n : Nat) : (iotaI n).Nodup := by
  unfold iotaI
  refine List.Pairwise.map _ (fun a b h e => h ?_) List.nodup_range
  exact Int.ofNat.inj e
theorem DomOk.init {p : D_Project} (h : projB p = true) : DomOk (initD p) := by
  obtain ⟨hn, hm⟩ := mode_count h
  refine ⟨by simp [initD]; omega, by simp [initD]; omega, by simp [initD]; omega, fun y hy => ?_⟩
  obtain ⟨a, ha, rfl⟩ := List.mem_map.1 hy
  obtain ⟨i, hi, rfl⟩ := List.mem_iff_getElem.1 ha
  have := hm i hi
  exact ⟨iotaI_nodup _, by rw [iotaI_length]; omega⟩
abbrev zeroD : D_Domain := ([], [], [], ())
theorem zero_ok : DomOk zeroD := ⟨by simp, by simp, by simp, by simp⟩
end Go.Proofs.YtjgmjljdhgfdhaaGreat
