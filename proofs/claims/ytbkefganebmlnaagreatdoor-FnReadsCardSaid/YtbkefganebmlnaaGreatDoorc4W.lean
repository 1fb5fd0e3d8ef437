/-
  How big data are: lists of at most so many elements. No condition.
-/
import Derived.Test.YtbkefganebmlnaaGreatDoorN30
import Derived.Test.YtbkefganebmlnaaGreatDoorc4Q
namespace Go.Proofs.YtbkefganebmlnaaGreatDoor
open Go.Abs
set_option linter.unusedVariables false
set_option linter.unusedSimpArgs false
def Sm_Mode (B:Nat) (x:D_Mode):Prop:=True /\ (x.2.1.length <= B /\ ∀ y ∈ x.2.1,True) /\ (x.2.2.1.length <= B /\ ∀ y ∈ x.2.2.1,True) /\ True
theorem Ahu {B B':Nat} (hB:B <= B') (x:D_Mode) (h:Sm_Mode B x):Sm_Mode B' x:=⟨trivial,⟨Nat.le_trans h.2.1.1 hB,fun y hy => trivial⟩,⟨Nat.le_trans h.2.2.1.1 hB,fun y hy => trivial⟩,trivial⟩
def Oc (B:Nat) (x:Ab):Prop:=x.1.length <= B /\ True /\ (x.2.2.1.length <= B /\ ∀ y ∈ x.2.2.1,Sm_Mode B y) /\ True
theorem Aay {B B':Nat} (hB:B <= B') (x:Ab) (h:Oc B x):Oc B' x:=⟨Nat.le_trans h.1 hB,trivial,⟨Nat.le_trans h.2.2.1.1 hB,fun y hy => Ahu hB _ (h.2.2.1.2 y hy)⟩,trivial⟩
def Sm_Link (B:Nat) (x:D_Link):Prop:=True /\ True /\ True /\ True /\ True
theorem Ahq {B B':Nat} (hB:B <= B') (x:D_Link) (h:Sm_Link B x):Sm_Link B' x:=⟨trivial,trivial,trivial,trivial,trivial⟩
def Sm_Step (B:Nat) (x:D_Step):Prop:=True /\ True /\ True
theorem Ahh {B B':Nat} (hB:B <= B') (x:D_Step) (h:Sm_Step B x):Sm_Step B' x:=⟨trivial,trivial,trivial⟩
def Ob (B:Nat) (x:Af):Prop:=(x.1.length <= B /\ ∀ y ∈ x.1,Sm_Step B y) /\ (x.2.1.length <= B /\ ∀ y ∈ x.2.1,(y.length <= B /\ ∀ z ∈ y,True)) /\ True
theorem Aa8 {B B':Nat} (hB:B <= B') (x:Af) (h:Ob B x):Ob B' x:=⟨⟨Nat.le_trans h.1.1 hB,fun y hy => Ahh hB _ (h.1.2 y hy)⟩,⟨Nat.le_trans h.2.1.1 hB,fun y hy => ⟨Nat.le_trans (h.2.1.2 y hy).1 hB,fun z hz => trivial⟩⟩,trivial⟩
def L6 (B:Nat) (x:Aa):Prop:=True /\ (x.2.1.length <= B /\ ∀ y ∈ x.2.1,Oc B y) /\ (x.2.2.1.length <= B /\ ∀ y ∈ x.2.2.1,Sm_Link B y) /\ (x.2.2.2.1.length <= B /\ ∀ y ∈ x.2.2.2.1,Ob B y) /\ (x.2.2.2.2.1.length <= B /\ ∀ y ∈ x.2.2.2.2.1,True) /\ True
theorem Aij {B B':Nat} (hB:B <= B') (x:Aa) (h:L6 B x):L6 B' x:=⟨trivial,⟨Nat.le_trans h.2.1.1 hB,fun y hy => Aay hB _ (h.2.1.2 y hy)⟩,⟨Nat.le_trans h.2.2.1.1 hB,fun y hy => Ahq hB _ (h.2.2.1.2 y hy)⟩,⟨Nat.le_trans h.2.2.2.1.1 hB,fun y hy => Aa8 hB _ (h.2.2.2.1.2 y hy)⟩,⟨Nat.le_trans h.2.2.2.2.1.1 hB,fun y hy => trivial⟩,trivial⟩
def Xu (B:Nat) (x:An):Prop:=True /\ True /\ True /\ True
theorem Aii {B B':Nat} (hB:B <= B') (x:An) (h:Xu B x):Xu B' x:=⟨trivial,trivial,trivial,trivial⟩
def Sm_Rule (B:Nat) (x:D_Rule):Prop:=True /\ True /\ True /\ True /\ True
theorem Aja {B B':Nat} (hB:B <= B') (x:D_Rule) (h:Sm_Rule B x):Sm_Rule B' x:=⟨trivial,trivial,trivial,trivial,trivial⟩
/- functions of the reference that the law does not call; the plain laws go by way of them -/
end Go.Proofs.YtbkefganebmlnaaGreatDoor
