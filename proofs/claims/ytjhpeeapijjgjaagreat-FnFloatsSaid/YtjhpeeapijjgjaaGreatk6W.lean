/-
  How big data are: lists of at most so many elements. No condition.
-/
import Derived.Test.YtjhpeeapijjgjaaGreatN30
import Derived.Test.YtjhpeeapijjgjaaGreatk6Q
namespace Go.Proofs.YtjhpeeapijjgjaaGreat
open Go.Abs
set_option linter.unusedVariables false
set_option linter.unusedSimpArgs false

def Sm_Mode (B : Nat) (x : D_Mode) : Prop := True ∧ (x.2.1.length ≤ B ∧ ∀ y ∈ x.2.1, True) ∧ (x.2.2.1.length ≤ B ∧ ∀ y ∈ x.2.2.1, True) ∧ True
theorem smm_Mode {B B' : Nat} (hB : B ≤ B') (x : D_Mode) (h : Sm_Mode B x) : Sm_Mode B' x := ⟨trivial, ⟨Nat.le_trans h.2.1.1 hB, fun y hy => trivial⟩, ⟨Nat.le_trans h.2.2.1.1 hB, fun y hy => trivial⟩, trivial⟩
def Sm_Activity (B : Nat) (x : D_Activity) : Prop := x.1.length ≤ B ∧ True ∧ (x.2.2.1.length ≤ B ∧ ∀ y ∈ x.2.2.1, Sm_Mode B y) ∧ True
theorem smm_Activity {B B' : Nat} (hB : B ≤ B') (x : D_Activity) (h : Sm_Activity B x) : Sm_Activity B' x := ⟨Nat.le_trans h.1 hB, trivial, ⟨Nat.le_trans h.2.2.1.1 hB, fun y hy => smm_Mode hB _ (h.2.2.1.2 y hy)⟩, trivial⟩
def Sm_Link (B : Nat) (x : D_Link) : Prop := True ∧ True ∧ True ∧ True ∧ True
theorem smm_Link {B B' : Nat} (hB : B ≤ B') (x : D_Link) (h : Sm_Link B x) : Sm_Link B' x := ⟨trivial, trivial, trivial, trivial, trivial⟩
def Sm_Step (B : Nat) (x : D_Step) : Prop := True ∧ True ∧ True
theorem smm_Step {B B' : Nat} (hB : B ≤ B') (x : D_Step) (h : Sm_Step B x) : Sm_Step B' x := ⟨trivial, trivial, trivial⟩
def Sm_Resource (B : Nat) (x : D_Resource) : Prop := (x.1.length ≤ B ∧ ∀ y ∈ x.1, Sm_Step B y) ∧ (x.2.1.length ≤ B ∧ ∀ y ∈ x.2.1, (y.length ≤ B ∧ ∀ z ∈ y, True)) ∧ True
theorem smm_Resource {B B' : Nat} (hB : B ≤ B') (x : D_Resource) (h : Sm_Resource B x) : Sm_Resource B' x := ⟨⟨Nat.le_trans h.1.1 hB, fun y hy => smm_Step hB _ (h.1.2 y hy)⟩, ⟨Nat.le_trans h.2.1.1 hB, fun y hy => ⟨Nat.le_trans (h.2.1.2 y hy).1 hB, fun z hz => trivial⟩⟩, trivial⟩
def Sm_Project (B : Nat) (x : D_Project) : Prop := True ∧ (x.2.1.length ≤ B ∧ ∀ y ∈ x.2.1, Sm_Activity B y) ∧ (x.2.2.1.length ≤ B ∧ ∀ y ∈ x.2.2.1, Sm_Link B y) ∧ (x.2.2.2.1.length ≤ B ∧ ∀ y ∈ x.2.2.2.1, Sm_Resource B y) ∧ (x.2.2.2.2.1.length ≤ B ∧ ∀ y ∈ x.2.2.2.2.1, True) ∧ True
theorem smm_Project {B B' : Nat} (hB : B ≤ B') (x : D_Project) (h : Sm_Project B x) : Sm_Project B' x := ⟨trivial, ⟨Nat.le_trans h.2.1.1 hB, fun y hy => smm_Activity hB _ (h.2.1.2 y hy)⟩, ⟨Nat.le_trans h.2.2.1.1 hB, fun y hy => smm_Link hB _ (h.2.2.1.2 y hy)⟩, ⟨Nat.le_trans h.2.2.2.1.1 hB, fun y hy => smm_Resource hB _ (h.2.2.2.1.2 y hy)⟩, ⟨Nat.le_trans h.2.2.2.2.1.1 hB, fun y hy => trivial⟩, trivial⟩
def Sm_Rule (B : Nat) (x : D_Rule) : Prop := True ∧ True ∧ True ∧ True ∧ True
theorem smm_Rule {B B' : Nat} (hB : B ≤ B') (x : D_Rule) (h : Sm_Rule B x) : Sm_Rule B' x := ⟨trivial, trivial, trivial, trivial, trivial⟩
/- functions of the reference that the law does not call; the plain laws go by way of them -/
end Go.Proofs.YtjhpeeapijjgjaaGreat
