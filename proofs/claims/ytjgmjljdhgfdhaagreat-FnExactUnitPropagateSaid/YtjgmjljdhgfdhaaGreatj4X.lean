/-
  The walk of impl.UnitPropagate over the claims of the functions that it calls: the variable that the function literal has captured is lent for the call. No condition.
-/
import Derived.Test.YtjgmjljdhgfdhaaGreatN41
import Derived.Test.YtjgmjljdhgfdhaaGreatProg
import Derived.KernelRfl
import Derived.WalkKit
import Derived.WalkSpells
import Derived.WalkLawsBesides
import Derived.Deep.QuietTactic
import Derived.Deep.LoopGhost
import Derived.Deep.RegionHeld
import Derived.BigQuiet
import Derived.ProofKit
import Derived.OpenShut
import Derived.Lib.Hide
import Derived.Laws.ResultCell
namespace Go.Proofs
set_option linter.unusedVariables false
set_option linter.unusedSimpArgs false
open Go.RowKit Go.Abs
abbrev schT : Ty := .st [.sl 3 (.int .i64), .sl 3 (.int .i64)]
abbrev Sch : Type := List Int × List Int × Unit
abbrev schM : Md := .s (.u .p) (.s (.u .p) .p)
def bestL (g : Sch → Option Int) : List Sch → Sch → Bool → Option (Sch × Bool)
  | [], b, f => some (b, f)
  | s :: l, b, false => bestL g l s true
  | s :: l, b, true => (g s).bind fun n => (g b).bind fun k => if n < k then bestL g l s true else bestL g l b true
def bestF {ts : List Ty} (FA : Ty.dens [.st ts, .int .i64] → Unit → Option (List Sch × Unit)) (FM : Ty.dens [.st ts, schT] → Unit → Option (Int × Unit)) : Ty.dens [.st ts, .int .i64] → Unit → Option ((Sch × Bool × Unit) × Unit) := fun x _ =>
  (FA x ()).bind fun ys => (bestL (fun s => (FM (x.1, s, ()) ()).map (·.1)) ys.1 ([], [], ()) false).map fun r => ((r.1, r.2, ()), ())
/-- what the variable holds: nothing yet, or an element of the list -/
def BestV (ss : List Sch) (cells : List Value) (b : Sch) (f : Bool) (v0 v1 : Value) : Prop :=
  (f = false ∧ b = ([], [], ()) ∧ v0 = .slice none 0 0 ∧ v1 = .slice none 0 0) ∨ (f = true ∧ ∃ i, ss[i]? = some b ∧ cells[i * 2]? = some v0 ∧ cells[i * 2 + 1]? = some v1)
theorem two_cells {cells : List Value} {i : Nat} {v0 v1 : Value} (h0 : cells[i * 2]? = some v0) (h1 : cells[i * 2 + 1]? = some v1) : (cells.drop (i * 2)).take 2 = [v0, v1] := by
  apply List.ext_getElem?
  intro j
  match j with
  | 0 => simp [h0]
  | 1 => simp [h1]
  | j + 2 => simp [List.getElem?_take]; omega
theorem bestV_rep {M : Program} {w : World} {P : Prot} {ss : List Sch} {cells : List Value} {Tc : List Nat} {b : Sch} {f : Bool} {v0 v1 : Value} (h : BestV ss cells b f v0 v1) (hL : RepL (RepC M schT w P schM) ss cells Tc) :
    ∃ T, RepV M schT w P schM b (.agg #[v0, v1]) T ∧ List.Sublist T Tc := by
  rcases h with ⟨-, rfl, rfl, rfl⟩ | ⟨-, i, h1, h2, h3⟩
  · refine ⟨[], ?_, List.nil_sublist _⟩
    simp only [RepV, RepCs, RepC, RepSl, Md.hd, Md.tl]
    exact ⟨[.slice none 0 0, .slice none 0 0], rfl, [.slice none 0 0], [.slice none 0 0], [], [], rfl, rfl, ⟨_, rfl, .inl ⟨rfl, rfl, rfl⟩⟩, [.slice none 0 0], [], [], [], rfl, rfl, ⟨_, rfl, .inl ⟨rfl, rfl, rfl⟩⟩, rfl, rfl⟩
  · obtain ⟨T, hr, hs, _⟩ := repL_at (size := 2) (fun x cs T r => (RepC.length schT r).1) hL h1
    rw [two_cells h2 h3] at hr
    exact ⟨T, RepV_of_RepC schT hr, hs⟩
theorem elem_cells {M : Program} {w : World} {P : Prot} {ss : List Sch} {cells : List Value} {Tc : List Nat} (hL : RepL (RepC M schT w P schM) ss cells Tc) {j : Nat} {s : Sch} (hj : ss[j]? = some s) :
    ∃ y0 m0 l0 y1 m1 l1, cells[j * 2]? = some (.slice y0 m0 l0) ∧ cells[j * 2 + 1]? = some (.slice y1 m1 l1) := by
  obtain ⟨T, hr, -, hlen⟩ := repL_at (size := 2) (fun x cs T r => (RepC.length schT r).1) hL hj
  have h0 : cells[j * 2]? = ((cells.drop (j * 2)).take 2)[0]? := by simp [List.getElem?_take]
  have h1 : cells[j * 2 + 1]? = ((cells.drop (j * 2)).take 2)[1]? := by simp [List.getElem?_take]
  rw [h0, h1]
  generalize (cells.drop (j * 2)).take 2 = cs at hr
  simp only [RepC, RepCs, Md.hd, Md.tl] at hr
  obtain ⟨c1, c2, T1, T2, rfl, rfl, ⟨v, rfl, hv⟩, c3, c4, T3, T4, rfl, rfl, ⟨u, rfl, hu⟩, rfl, rfl⟩ := hr
  have sl : ∀ {x : List Int} {v : Value} {T : List Nat}, RepSl (RepC M (.int .i64) w P) 3 1 w P (.u .p) x v T → ∃ a n c, v = .slice a n c := fun h => by
    rcases h with ⟨-, -, rfl⟩ | ⟨b, cap, cells, Tc, rfl, -⟩
    · exact ⟨_, _, _, rfl⟩
    · exact ⟨_, _, _, rfl⟩
  obtain ⟨y0, m0, l0, rfl⟩ := sl hv
  obtain ⟨y1, m1, l1, rfl⟩ := sl hu
  exact ⟨y0, m0, l0, y1, m1, l1, rfl, rfl⟩
theorem best_end {M : Program} {w w1 w2 wr : World} {P P1 Pr : Prot} {Tr Tc : List Nat} {ss : List Sch} {cells : List Value} {b : Sch} {f : Bool} {v0 v1 : Value} (ht : There w P) (hp2 : PExt [] w P w2 P) (hs : w2.heap.size = w.heap.size + 1 + 1 + 1) (hp1 : PExt [] w2 P w1 P1)
    (hL : RepL (RepC M schT w1 P1 schM) ss cells Tc) (hsub : List.Sublist Tc Tr) (hnd : Tr.Nodup) (hTr : ∀ b ∈ Tr, w2.heap.size ≤ b ∧ b < w1.heap.size) (hp : PExt [w.heap.size + 1 + 1] w1 P1 wr Pr) (hB : BestV ss cells b f v0 v1) :
    ∃ P' T, PExt [] w P ((wr.setCell ⟨w.heap.size + 1, 0, none⟩ v0).setCell ⟨w.heap.size + 1, 1, none⟩ v1) P' ∧
      RepV M (.tup [schT, .bool]) ((wr.setCell ⟨w.heap.size + 1, 0, none⟩ v0).setCell ⟨w.heap.size + 1, 1, none⟩ v1) P' (Ty.all (.tup [schT, .bool])) (b, f, ()) (.tuple #[.agg #[v0, v1], .bool f]) T ∧
      T.Nodup ∧ ∀ b ∈ T, w.heap.size ≤ b ∧ b < ((wr.setCell ⟨w.heap.size + 1, 0, none⟩ v0).setCell ⟨w.heap.size + 1, 1, none⟩ v1).heap.size := by
  have hn4 : ∀ o, ¬ Pr (w.heap.size + 1) o := fun o ho => by
    rcases hp.old _ _ ho with h | h | h
    · rcases hp1.old _ _ h with h | h | h
      · obtain ⟨v, hv⟩ := ht _ _ h
        have := World.block_lt_of_cell? w ⟨_, o, none⟩ hv
        simp at this
        omega
      · omega
      · simp at h
    · have := hp1.size; omega
    · simp at h
  have q1 := pext_set (w := wr) (P := Pr) hp.there (o := 0) (v := v0) hn4
  have q2 := pext_set (w := wr.setCell ⟨w.heap.size + 1, 0, none⟩ v0) (P := Pr) q1.there (o := 1) (v := v1) hn4
  have q := q1.trans q2 (fun b hb => .inr hb)
  generalize ((wr.setCell ⟨w.heap.size + 1, 0, none⟩ v0).setCell ⟨w.heap.size + 1, 1, none⟩ v1) = w3 at q
  have q3 : PExt [w.heap.size + 1 + 1, w.heap.size + 1] w1 P1 w3 Pr := (hp.wide (F' := [w.heap.size + 1 + 1, w.heap.size + 1]) (by simp) (fun k hk o => by
    simp at hk
    rcases hk with rfl | rfl
    · exact hp.free _ (by simp) o
    · exact fun h => hn4 o (hp.prot _ _ h))).trans q (fun b hb => .inr (by simp at hb; simp [hb]))
  have hk := q3.keeps Tr fun b hb => ⟨(hTr b hb).2, by have := (hTr b hb).1; simp; omega⟩
  have hL3 : RepL (RepC M schT w3 Pr schM) ss cells Tc := hL.mono fun x cs T' hs r => RepC.mono schT r (hk.sub fun b hb => hsub.subset (hs b hb))
  obtain ⟨T, hr, hT⟩ := bestV_rep hB hL3
  have hT' := hT.trans hsub
  refine ⟨Pr, T, (hp2.trans0 hp1).trans q3 fun b hb => .inl (by simp at hb; omega), ?_, hT'.nodup hnd, fun b hb => ?_⟩
  · show RepV M (.tup [schT, .bool]) w3 Pr (.s schM (.s .p .p)) (b, f, ()) _ T
    simp only [RepV, RepVs, Md.hd, Md.tl]
    refine ⟨[.agg #[v0, v1], .bool f], rfl, .agg #[v0, v1], [.bool f], T, [], rfl, by simp, ?_, .bool f, [], [], [], rfl, rfl, ⟨rfl, rfl⟩, rfl, rfl⟩
    have := hr
    simpa only [RepV] using this
  · have h1 := hTr b (hT'.subset hb)
    have h2 := q3.size
    exact ⟨by omega, by omega⟩
theorem two_at {w : World} {b : Nat} {v0 v1 : Value} {e : TypeId} (h : w.heap[b]? = some (.cells #[v0, v1] e (0, 0))) : w.cell? ⟨b, 0, none⟩ = some v0 ∧ w.cell? ⟨b, 1, none⟩ = some v1 ∧ w.frozen? ⟨b, 0, none⟩ = false ∧ w.frozen? ⟨b, 1, none⟩ = false :=
  ⟨by rw [cell_of h]; rfl, by rw [cell_of h]; rfl, frozen_of h 0, frozen_of h 1⟩
theorem five_at {w : World} {b : Nat} {v0 v1 v2 v3 v4 : Value} {e : TypeId} (h : w.heap[b]? = some (.cells #[v0, v1, v2, v3, v4] e (0, 0))) :
    w.cell? ⟨b, 0, none⟩ = some v0 ∧ w.cell? ⟨b, 1, none⟩ = some v1 ∧ w.cell? ⟨b, 2, none⟩ = some v2 ∧ w.cell? ⟨b, 3, none⟩ = some v3 ∧ w.cell? ⟨b, 4, none⟩ = some v4 :=
  ⟨by rw [cell_of h]; rfl, by rw [cell_of h]; rfl, by rw [cell_of h]; rfl, by rw [cell_of h]; rfl, by rw [cell_of h]; rfl⟩
theorem pext_drew {w : World} {P : Prot} (ht : There w P) : PExt [] w P w.drew P := ⟨rfl, rfl, rfl, Nat.le_refl _, fun _ _ _ => rfl, by simp, fun _ _ h => h, fun _ _ h => .inl h, ht⟩
theorem PExt.drewR {F : List Nat} {w w' : World} {P P' : Prot} (h : PExt F w P w' P') : PExt F w P w'.drew P' := ⟨h.os, h.tape, h.output, h.size, h.block, h.free, h.prot, h.old, h.there⟩
/-- the variable written anew -/
theorem set_var {b6 : Nat} {w1 wx : World} {P1 Px : Prot} {u0 u1 v0 v1 : Value} (h : PExt [b6] w1 P1 wx Px) (hn : ∀ o, ¬ Px b6 o) (hv : wx.heap[b6]? = some (.cells #[u0, u1] 30 (0, 0))) :
    PExt [b6] w1 P1 ((wx.setCell ⟨b6, 0, none⟩ v0).setCell ⟨b6, 1, none⟩ v1) Px ∧ ((wx.setCell ⟨b6, 0, none⟩ v0).setCell ⟨b6, 1, none⟩ v1).heap[b6]? = some (.cells #[v0, v1] 30 (0, 0)) := by
  have q1 := pext_set (w := wx) (P := Px) h.there (o := 0) (v := v0) hn
  have q2 := pext_set (w := wx.setCell ⟨b6, 0, none⟩ v0) (P := Px) q1.there (o := 1) (v := v1) hn
  refine ⟨(h.trans q1 fun b hb => .inr hb).trans q2 fun b hb => .inr hb, ?_⟩
  have := set_heap (set_heap hv 0 v0) 1 v1
  simpa using this
theorem free_later {w w' : World} {P P' : Prot} {b : Nat} (hp : PExt [] w P w' P') (hlt : b < w.heap.size) (hn : ∀ o, ¬ P b o) : ∀ o, ¬ P' b o := fun o ho => by
  rcases hp.old _ _ ho with h | h | h
  · exact hn o h
  · omega
  · simp at h
/-- a call of Makespan -/
theorem span_call {B : Base} {M : Program} {ts : List Ty} {FM : Ty.dens [.st ts, schT] → Unit → Option (Int × Unit)} (hM : SigB B M 36 ⟨[.st ts, schT], [], none, .p, .int .i64, .p, FM⟩) {w w1 wx : World} {P P1 Px : Prot} {b6 : Nat} {Tr Tc : List Nat} {ss : List Sch} {cells : List Value} {b : Sch} {f : Bool}
    {v0 v1 pv : Value} {p : (Ty.st ts).den} {n : Int} (hb : BaseOk M B w P) (h0 : RepV M (.st ts) w P .p p pv []) (hl : Later w P w1 P1) (hL : RepL (RepC M schT w1 P1 schM) ss cells Tc) (hsub : List.Sublist Tc Tr) (hTr : ∀ b ∈ Tr, b6 < b ∧ b < w1.heap.size) (hTn : ∀ b ∈ Tr, ∀ o, ¬ P1 b o) (hp : PExt [b6] w1 P1 wx Px) (hB : BestV ss cells b f v0 v1)
    (hF : (FM (p, b, ()) ()).map (·.1) = some n) : Calls M 36 #[pv, .agg #[v0, v1]] wx fun e w' => ∃ P', e = .returned (.int .i64 n) ∧ PExt [] wx Px w' P' := by
  obtain ⟨⟨n', u⟩, hF2, rfl⟩ := Option.map_eq_some_iff.1 hF
  have hk := hp.keeps Tr fun b hb => ⟨(hTr b hb).2, by have := (hTr b hb).1; simp; omega⟩
  have hL3 : RepL (RepC M schT wx Px schM) ss cells Tc := hL.mono fun x cs T' hs r => RepC.mono schT r (hk.sub fun b hb => hsub.subset (hs b hb))
  obtain ⟨T, hr, hT⟩ := bestV_rep hB hL3
  have hT' := hT.trans hsub
  have hl2 := hl.trans hp.later
  refine (call_lent (D := T) (ys := ()) (vs := [pv, .agg #[v0, v1]]) (caps := []) hM (hb.later hl2) hp.there (fun b hb => ⟨Nat.lt_of_lt_of_le (hTr b (hT'.subset hb)).2 hp.size, fun o ho => hTn b (hT'.subset hb) o (hk.old b (hT'.subset hb) o ho)⟩) rfl ?_ rfl hF2).mono ?_
  · simp only [RepVs, Md.hd, Md.tl]
    exact ⟨_, _, [], [], rfl, rfl, keep_p h0 (hl2.trans (Later.add _ _ _)), _, _, [], [], rfl, rfl, lent_rep hr rfl fun b hb => hb, rfl, rfl⟩
  · rintro e w' ⟨v, P', Tr', rfl, hp', hr', -⟩
    simp only [RepV] at hr'
    exact ⟨P', by rw [hr'.1], hp'⟩
/-- the three variables' blocks -/
structure Vars (w : World) (b2 b6 b9 : Nat) (ps : Array Value) (x y : Array Value) : Prop where
  v2 : w.heap[b2]? = some (.cells ps 37 (0, 0))
  v6 : w.heap[b6]? = some (.cells x 30 (0, 0))
  v9 : w.heap[b9]? = some (.cells y 30 (0, 0))
theorem Vars.later {w w' : World} {P P' : Prot} {b2 b6 b9 : Nat} {ps x y : Array Value} (h : Vars w b2 b6 b9 ps x y) (hp : PExt [] w P w' P') : Vars w' b2 b6 b9 ps x y :=
  ⟨by rw [hp.block _ (Array.getElem?_eq_some_iff.1 h.v2).1 (by simp)]; exact h.v2, by rw [hp.block _ (Array.getElem?_eq_some_iff.1 h.v6).1 (by simp)]; exact h.v6, by rw [hp.block _ (Array.getElem?_eq_some_iff.1 h.v9).1 (by simp)]; exact h.v9⟩
/-- what the loads of a round read -/
def RdS (w1 : World) (P1 : Prot) (b2 b6 b9 : Nat) (p0 p1 p2 p3 p4 u0 u1 v0 v1 : Value) (w' : World) : Prop :=
  (w'.cell? ⟨b2, 0, none⟩ = some p0 ∧ w'.cell? ⟨b2, 1, none⟩ = some p1 ∧ w'.cell? ⟨b2, 2, none⟩ = some p2 ∧ w'.cell? ⟨b2, 3, none⟩ = some p3 ∧ w'.cell? ⟨b2, 4, none⟩ = some p4) ∧
    (w'.cell? ⟨b6, 0, none⟩ = some u0 ∧ w'.cell? ⟨b6, 1, none⟩ = some u1) ∧ (w'.cell? ⟨b9, 0, none⟩ = some v0 ∧ w'.cell? ⟨b9, 1, none⟩ = some v1) ∧
    AsideQ (∃ P', PExt [b6] w1 P1 w' P' ∧ (∀ o, ¬ P' b6 o) ∧ Vars w' b2 b6 b9 #[p0, p1, p2, p3, p4] #[u0, u1] #[v0, v1])
theorem RdS.mk' {w1 : World} {P1 : Prot} {b2 b6 b9 : Nat} {p0 p1 p2 p3 p4 u0 u1 v0 v1 : Value} {w' : World} {P' : Prot} (h1 : PExt [b6] w1 P1 w' P') (h2 : ∀ o, ¬ P' b6 o) (hv : Vars w' b2 b6 b9 #[p0, p1, p2, p3, p4] #[u0, u1] #[v0, v1]) :
    RdS w1 P1 b2 b6 b9 p0 p1 p2 p3 p4 u0 u1 v0 v1 w' :=
  ⟨five_at hv.v2, ⟨(two_at hv.v6).1, (two_at hv.v6).2.1⟩, ⟨(two_at hv.v9).1, (two_at hv.v9).2.1⟩, ⟨P', h1, h2, hv⟩⟩
theorem RdS.drew {w1 : World} {P1 : Prot} {b2 b6 b9 : Nat} {p0 p1 p2 p3 p4 u0 u1 v0 v1 : Value} {w' : World} (h : RdS w1 P1 b2 b6 b9 p0 p1 p2 p3 p4 u0 u1 v0 v1 w') : RdS w1 P1 b2 b6 b9 p0 p1 p2 p3 p4 u0 u1 v0 v1 w'.drew := by
  obtain ⟨P', h1, h2, hv⟩ := h.2.2.2.out
  exact RdS.mk' (PExt.drewR h1) h2 ⟨hv.v2, hv.v6, hv.v9⟩
theorem span_held {B : Base} {M : Program} {ts : List Ty} {FM : Ty.dens [.st ts, schT] → Unit → Option (Int × Unit)} (hM : SigB B M 36 ⟨[.st ts, schT], [], none, .p, .int .i64, .p, FM⟩) {w w1 wx : World} {P P1 : Prot} {b2 b6 b9 : Nat} {Tr Tc : List Nat} {ss : List Sch} {cells : List Value} {b : Sch} {f : Bool}
    {v0 v1 pv p0 p1 p2 p3 p4 x0 x1 y0 y1 : Value} {p : (Ty.st ts).den} {n : Int} (hb : BaseOk M B w P) (h0 : RepV M (.st ts) w P .p p pv []) (hl : Later w P w1 P1) (hL : RepL (RepC M schT w1 P1 schM) ss cells Tc) (hsub : List.Sublist Tc Tr) (hTr : ∀ b ∈ Tr, b6 < b ∧ b < w1.heap.size) (hTn : ∀ b ∈ Tr, ∀ o, ¬ P1 b o) (hB : BestV ss cells b f v0 v1)
    (hF : (FM (p, b, ()) ()).map (·.1) = some n) (hS : RdS w1 P1 b2 b6 b9 p0 p1 p2 p3 p4 x0 x1 y0 y1 wx) : Calls M 36 #[pv, .agg #[v0, v1]] wx fun e w' => e = .returned (.int .i64 n) ∧ RdS w1 P1 b2 b6 b9 p0 p1 p2 p3 p4 x0 x1 y0 y1 w' := by
  obtain ⟨Px, hp, hn, hv⟩ := hS.2.2.2.out
  refine (span_call hM hb h0 hl hL hsub hTr hTn hp hB hF).mono ?_
  rintro e w' ⟨P', rfl, hp'⟩
  exact ⟨rfl, RdS.mk' (hp.trans hp' (by simp)) (free_later hp' (Array.getElem?_eq_some_iff.1 hv.v6).1 hn) (hv.later hp')⟩
section
abbrev domT : Ty := .st [.sl 3 (.int .i64), .sl 3 (.int .i64), .sl 25 (.sl 3 (.int .i64))]
abbrev Dom : Type := List Int × List Int × List (List Int) × Unit
abbrev domM : Md := .s (.u .p) (.s (.u .p) (.s (.u (.u .p)) .p))
abbrev litT : Ty := .st [.int .i64, .int .i64, .int .i64]
abbrev Lit : Type := Int × Int × Int × Unit
abbrev claT : Ty := .sl 86 litT
/-- the rounds of the loop: the list's first clause that says something; what it says is taken in -/
def upL (fE : Dom → Option Bool) (fI : Dom → Option Int) (ls : List (List Lit)) (fS : Dom → List Lit → Option (Int × Lit)) (fR : Dom → Lit → Option Dom) : Nat → Dom → Option (Dom × Bool)
  | 0, _ => none
  | k + 1, x => (fE x).bind fun e => if e = true then some (x, true) else (fI x).bind fun n => if n < 0 then some (x, false) else (getI ls n).bind fun l => (fS x l).bind fun s => if s.1 < 0 then some (x, true) else (fR x s.2).bind fun y => upL fE fI ls fS fR k y
def upF {ts : List Ty} (FC : Ty.dens [domT] → Unit → Option (Dom × Unit)) (FD : Ty.dens [.st ts, domT] → Unit → Option (Bool × Unit)) (FE : Ty.dens [domT] → Unit → Option (Bool × Unit)) (FI : Ty.dens [.sl 90 claT, .fn [claT] .bool] → Unit → Option (Int × Unit))
    (FK : Ty.dens [claT] → Ty.dens [domT] → Option (Bool × Unit)) (FS : Ty.dens [domT, claT] → Unit → Option ((Int × Lit × Unit) × Unit)) (FR : Ty.dens [domT, litT] → Unit → Option (Dom × Unit)) : Ty.dens [.st ts, .sl 90 claT, domT] → Unit → Option ((Dom × Bool × Unit) × Unit) := fun x _ =>
  (FC (x.2.2.1, ()) ()).bind fun c => (FD (x.1, x.2.2.1, ()) ()).bind fun f => if f.1 = true then
    (upL (fun d => (FE (d, ()) ()).map (·.1)) (fun d => (FI (x.2.1, (fun l => (FK l (d, ())).map (·.1)), ()) ()).map (·.1)) x.2.1 (fun d l => (FS (d, l, ()) ()).map fun s => (s.1.1, s.1.2.1)) (fun d l => (FR (d, l, ()) ()).map (·.1)) 1048576 c.1).map fun r => ((r.1, r.2, ()), ())
  else some ((c.1, false, ()), ())
/-- a function that has captured a variable, as a value, while the variable is lent -/
theorem func_cap {B : Base} {M : Program} {w : World} {P : Prot} {f : FuncId} {ps cs : List Ty} {im : Md} {r : Ty} {m : Md} {F : Ty.dens ps → Ty.dens cs → Option (r.den × Unit)} (hsg : SigB B M f ⟨ps, cs, none, im, r, m, F⟩) (hb : BaseOk M B w P) (hnh : r.nh m = true) {caps : List Value} {ys : Ty.dens cs} (hc : CapR M w P cs ys caps) :
    RepV M (.fn ps r) w P .p (fun x => (F x ys).map (·.1)) (.func (.func f) #[] caps.toArray) [] := by
  obtain ⟨hf, hcall⟩ := hsg
  simp only [RepV]
  refine ⟨trivial, f, caps.toArray, rfl, hf, fun w' P' x vs y hl ht hA hy => ?_⟩
  obtain ⟨y2, hy2, hy⟩ := Option.map_eq_some_iff.1 hy
  cases hy
  have hC := hcall w' P' x ys vs caps [] y2 (hb.later hl) ht (ArgsR.of_none hA) List.nodup_nil (by simp) (hc.mono hl) hy2
  have e1 : List.toArray (vs ++ caps) = vs.toArray ++ caps.toArray := by
    apply Array.toList_inj.1
    simp
  rw [e1] at hC
  refine hC.mono ?_
  rintro e w'' ⟨u, P1, Tr, Tq, rfl, hp, hrep, hio, hnd, hsub⟩
  have hio : Tq = [] := by
    clear hcall hC
    cases ps <;> exact hio
  subst hio
  refine ⟨u, P1.add w'' Tr, rfl, hp.add fun b hb => ?_, RepV.freeze (Later.add w'' P1 Tr) r hrep hnh fun b hb o v hv => .inr ⟨hb, v, hv⟩⟩
  rcases hsub b (by simp [hb]) with h' | h'
  · simp at h'
  · exact .inl h'.1
theorem dom_slices {M : Program} {w : World} {P : Prot} {x : Dom} {v : Value} {T : List Nat} {m : Md} (h : RepV M domT w P m x v T) (hm : m = domM ∨ m = .p) : ∃ a0 n0 c0 a1 n1 c1 a2 n2 c2, v = .agg #[.slice a0 n0 c0, .slice a1 n1 c1, .slice a2 n2 c2] := by
  simp only [RepV, RepCs, RepC] at h
  obtain ⟨cs, rfl, c1, d1, T1, U1, rfl, rfl, ⟨v1, rfl, h1⟩, c2, d2, T2, U2, rfl, rfl, ⟨v2, rfl, h2⟩, c3, d3, T3, U3, rfl, rfl, ⟨v3, rfl, h3⟩, rfl, rfl⟩ := h
  obtain ⟨a0, n0, k0, rfl⟩ := RepSl.one h1
  obtain ⟨a1, n1, k1, rfl⟩ := RepSl.one h2
  obtain ⟨a2, n2, k2, rfl⟩ := RepSl.one h3
  exact ⟨a0, n0, k0, a1, n1, k1, a2, n2, k2, rfl⟩
theorem three_at {w : World} {b : Nat} {v0 v1 v2 : Value} {e : TypeId} (h : w.heap[b]? = some (.cells #[v0, v1, v2] e (0, 0))) :
    (w.cell? ⟨b, 0, none⟩ = some v0 ∧ w.cell? ⟨b, 1, none⟩ = some v1 ∧ w.cell? ⟨b, 2, none⟩ = some v2) ∧ w.frozen? ⟨b, 0, none⟩ = false ∧ w.frozen? ⟨b, 1, none⟩ = false ∧ w.frozen? ⟨b, 2, none⟩ = false :=
  ⟨⟨by rw [cell_of h]; rfl, by rw [cell_of h]; rfl, by rw [cell_of h]; rfl⟩, frozen_of h 0, frozen_of h 1, frozen_of h 2⟩
/-- what holds in the loop: the variable out at block b8 holds a domain of its own -/
structure UpS (M : Program) (w2 : World) (P2 : Prot) (b0 b8 : Nat) (x : Dom) (v0 v1 v2 : Value) (T : List Nat) (w : World) (P : Prot) : Prop where
  ext : PExt [b8] w2 P2 w P
  free : ∀ o, ¬ P b8 o
  lt : b8 < w.heap.size
  row : w.heap[b8]? = some (.cells #[v0, v1, v2] 50 (0, 0))
  rep : RepV M domT w P domM x (.agg #[v0, v1, v2]) T
  nd : T.Nodup
  bd : ∀ b ∈ T, b0 ≤ b ∧ b < w.heap.size
  out : b8 ∉ T
variable {M : Program} {w2 w w' : World} {P2 P P' : Prot} {b0 b8 : Nat} {x : Dom} {v0 v1 v2 : Value} {T : List Nat}
theorem UpS.later (h : UpS M w2 P2 b0 b8 x v0 v1 v2 T w P) (hp : PExt [] w P w' P') : UpS M w2 P2 b0 b8 x v0 v1 v2 T w' P' :=
  ⟨h.ext.trans hp (by simp), free_later hp h.lt h.free, Nat.lt_of_lt_of_le h.lt hp.size, by rw [hp.block _ h.lt (by simp)]; exact h.row, keep_own h.rep hp fun b hb => (h.bd b hb).2, h.nd, fun b hb => ⟨(h.bd b hb).1, Nat.lt_of_lt_of_le (h.bd b hb).2 hp.size⟩, h.out⟩
theorem UpS.own (h : UpS M w2 P2 b0 b8 x v0 v1 v2 T w P) : ∀ b ∈ b8 :: T, b < w.heap.size ∧ ∀ o, ¬ P b o := fun b hb => by
  rcases List.mem_cons.1 hb with rfl | hb
  · exact ⟨h.lt, h.free⟩
  · exact ⟨(h.bd b hb).2, RepV.free _ h.rep b hb⟩
theorem UpS.lent (h : UpS M w2 P2 b0 b8 x v0 v1 v2 T w P) : RepV M domT w (P.add w (b8 :: T)) .p x (.agg #[v0, v1, v2]) [] := lent_rep h.rep rfl fun b hb => List.mem_cons_of_mem _ hb
theorem UpS.cap (h : UpS M w2 P2 b0 b8 x v0 v1 v2 T w P) : CapR M w (P.add w (b8 :: T)) [domT] (x, ()) [.pointer (some ⟨b8, 0, none⟩)] := by
  refine ⟨_, _, rfl, ?_, rfl⟩
  have hr := (RepC_of_RepV domT rfl h.lent).1
  have hc : RepC M domT w (P.add w (b8 :: T)) .p x [v0, v1, v2] [] := hr
  simp only [RepV]
  refine ⟨rfl, b8, 0, [v0, v1, v2], rfl, hc, fun j v hj => ?_⟩
  have hcell : w.cell? ⟨b8, 0 + j, none⟩ = some v := by
    rw [cell_of h.row, Nat.zero_add]
    simpa using hj
  exact ⟨hcell, .inr ⟨by simp, v, hcell⟩⟩
/-- a call to which the variable is lent -/
theorem UpS.call {B : Base} {f : FuncId} {ps : List Ty} {im m : Md} {r : Ty} {F : Ty.dens ps → Unit → Option (r.den × Unit)} (h : UpS M w2 P2 b0 b8 x v0 v1 v2 T w P) (hs : SigB B M f ⟨ps, [], none, im, r, m, F⟩) (hb : BaseOk M B w2 P2) (hr : r.fresh m = true) {xs : Ty.dens ps} {vs : List Value} (ha : RepVs M ps w (P.add w (b8 :: T)) .p xs vs []) {y : r.den × Unit} (hy : F xs () = some y) :
    Calls M f (List.toArray (vs ++ [])) w fun e w' => ∃ u P' Tr, e = .returned u ∧ PExt [] w P w' P' ∧ RepV M r w' P' m y.1 u Tr ∧ Tr.Nodup ∧ (∀ b ∈ Tr, w.heap.size ≤ b ∧ b < w'.heap.size) := by
  refine (call_lent hs (hb.later h.ext.later) h.ext.there h.own hr ha rfl hy).mono ?_
  rintro e w' ⟨u, P', Tr, rfl, h1, h2, h3, h4, -⟩
  exact ⟨u, P', Tr, rfl, h1, h2, h3, h4⟩
/-- three cells written in a block that nothing leans on -/
theorem set3 {w : World} {P : Prot} (ht : There w P) {b : Nat} {u0 u1 u2 : Value} {e : TypeId} {c0 c1 c2 : Value} (hb : ∀ o, ¬ P b o) (hr : w.heap[b]? = some (.cells #[c0, c1, c2] e (0, 0))) :
    PExt [b] w P (((w.setCell ⟨b, 0, none⟩ u0).setCell ⟨b, 1, none⟩ u1).setCell ⟨b, 2, none⟩ u2) P ∧ (((w.setCell ⟨b, 0, none⟩ u0).setCell ⟨b, 1, none⟩ u1).setCell ⟨b, 2, none⟩ u2).heap[b]? = some (.cells #[u0, u1, u2] e (0, 0)) := by
  have q1 := pext_set (w := w) (P := P) ht (o := 0) (v := u0) hb
  have q2 := pext_set (w := w.setCell ⟨b, 0, none⟩ u0) (P := P) q1.there (o := 1) (v := u1) hb
  have q3 := pext_set (w := (w.setCell ⟨b, 0, none⟩ u0).setCell ⟨b, 1, none⟩ u1) (P := P) q2.there (o := 2) (v := u2) hb
  refine ⟨(q1.trans q2 fun b hb => .inr hb).trans q3 fun b hb => .inr hb, ?_⟩
  have := set_heap (set_heap (set_heap hr 0 u0) 1 u1) 2 u2
  simpa using this
/-- the variable written anew -/
theorem UpS.set (h : UpS M w2 P2 b0 b8 x v0 v1 v2 T w P) {y : Dom} {u0 u1 u2 : Value} {T' : List Nat} (hr : RepV M domT w P domM y (.agg #[u0, u1, u2]) T') (hn : T'.Nodup) (hb : ∀ b ∈ T', b0 ≤ b ∧ b < w.heap.size) (ho : b8 ∉ T') :
    UpS M w2 P2 b0 b8 y u0 u1 u2 T' (((w.setCell ⟨b8, 0, none⟩ u0).setCell ⟨b8, 1, none⟩ u1).setCell ⟨b8, 2, none⟩ u2) P := by
  obtain ⟨q, qr⟩ := set3 (u0 := u0) (u1 := u1) (u2 := u2) h.ext.there h.free h.row
  refine ⟨h.ext.trans q fun b hb => .inr hb, h.free, Nat.lt_of_lt_of_le h.lt q.size, qr, RepV.mono _ hr (q.keeps T' fun b hb' => ⟨(hb b hb').2, by simp; exact fun e => ho (e ▸ hb')⟩), hn, fun b hb' => ⟨(hb b hb').1, Nat.lt_of_lt_of_le (hb b hb').2 q.size⟩, ho⟩
/-- what is returned -/
theorem UpS.ret (h : UpS M w2 P2 b0 b8 x v0 v1 v2 T w P) {w0 : World} {P0 : Prot} (hp : PExt [] w0 P0 w2 P2) (h0 : w0.heap.size ≤ b0) {b6 : Nat} (h6 : b6 < b0) (h60 : w0.heap.size ≤ b6) (h8 : w0.heap.size ≤ b8) (h68 : b6 ≠ b8) (h62 : b6 < w2.heap.size) (hn6 : ∀ o, ¬ P2 b6 o) {c0 c1 c2 : Value} (hr6 : w2.heap[b6]? = some (.cells #[c0, c1, c2] 50 (0, 0))) (f : Bool) :
    w.heap[b6]? = some (.cells #[c0, c1, c2] 50 (0, 0)) ∧ (((w.setCell ⟨b6, 0, none⟩ v0).setCell ⟨b6, 1, none⟩ v1).setCell ⟨b6, 2, none⟩ v2).heap[b6]? = some (.cells #[v0, v1, v2] 50 (0, 0)) ∧
    ∃ P' T, PExt [] w0 P0 (((w.setCell ⟨b6, 0, none⟩ v0).setCell ⟨b6, 1, none⟩ v1).setCell ⟨b6, 2, none⟩ v2) P' ∧
      RepV M (.tup [domT, .bool]) (((w.setCell ⟨b6, 0, none⟩ v0).setCell ⟨b6, 1, none⟩ v1).setCell ⟨b6, 2, none⟩ v2) P' (Ty.all (.tup [domT, .bool])) (x, f, ()) (.tuple #[.agg #[v0, v1, v2], .bool f]) T ∧
      T.Nodup ∧ ∀ b ∈ T, w0.heap.size ≤ b ∧ b < (((w.setCell ⟨b6, 0, none⟩ v0).setCell ⟨b6, 1, none⟩ v1).setCell ⟨b6, 2, none⟩ v2).heap.size := by
  have hrow : w.heap[b6]? = some (.cells #[c0, c1, c2] 50 (0, 0)) := by
    rw [h.ext.block _ h62 (by simp; exact h68)]
    exact hr6
  have hn : ∀ o, ¬ P b6 o := fun o ho => by
    rcases h.ext.old _ _ ho with h' | h' | h'
    · exact hn6 o h'
    · omega
    · simp at h'; exact h68 h'
  obtain ⟨q, qr⟩ := set3 (u0 := v0) (u1 := v1) (u2 := v2) h.ext.there hn hrow
  refine ⟨hrow, qr, P, T, ((hp.trans h.ext fun b hb => .inl (by simp at hb; omega)).trans q fun b hb => .inl (by simp at hb; omega)), ?_, h.nd, fun b hb => ⟨by have := (h.bd b hb).1; omega, Nat.lt_of_lt_of_le (h.bd b hb).2 q.size⟩⟩
  have hr := RepV.mono _ h.rep (q.keeps T fun b hb => ⟨(h.bd b hb).2, by have := (h.bd b hb).1; simp; omega⟩)
  generalize (((w.setCell ⟨b6, 0, none⟩ v0).setCell ⟨b6, 1, none⟩ v1).setCell ⟨b6, 2, none⟩ v2) = w3 at hr
  show RepV M (.tup [domT, .bool]) w3 P (.s domM (.s .p .p)) (x, f, ()) _ T
  simp only [RepV, RepVs, Md.hd]
  refine ⟨[.agg #[v0, v1, v2], .bool f], rfl, .agg #[v0, v1, v2], [.bool f], T, [], rfl, by simp, ?_, .bool f, [], [], [], rfl, rfl, ⟨rfl, rfl⟩, rfl, rfl⟩
  simpa only [RepV] using hr
/-- an element of a list that is shared -/
theorem list_at {M : Program} {w : World} {P : Prot} {e e' : TypeId} {t : Ty} {xs : List (List t.den)} {v : Value} (h : RepV M (.sl e (.sl e' t)) w P .p xs v []) {n : Int} {l : List t.den} (hl : getI xs n = some l) :
    ∃ b off cap a k c, v = .slice (some ⟨b, off, none⟩) xs.length cap ∧ 0 ≤ n ∧ n < xs.length ∧ w.cell? ⟨b, off + n.toNat, none⟩ = some (.slice a k c) ∧ P b (off + n.toNat) ∧ RepV M (.sl e' t) w P .p l (.slice a k c) [] := by
  obtain ⟨h0, h1, h2⟩ := getI_some hl
  simp only [RepV] at h
  obtain ⟨-, ⟨e0, -⟩ | ⟨b, off, cap, cells, rfl, hcp, hL, hcl, hcs⟩⟩ := h
  · have : xs.length = 0 := (congrArg List.length e0)
    omega
  · obtain ⟨hr, hlen⟩ := RepL.get (size := 1) (fun x cs T r => (RepC.length (.sl e' t) r).1) hL h1
    simp only [RepC] at hr
    obtain ⟨u, hu, hr⟩ := hr
    obtain ⟨a, k, c, rfl⟩ := RepSl.one hr
    have hc : cells[n.toNat]? = some (.slice a k c) := by
      have := congrArg (fun l => l[0]?) hu
      simpa [List.getElem?_take] using this
    obtain ⟨q1, q2⟩ := hcs _ _ hc
    exact ⟨b, off, cap, a, k, c, rfl, h0, h2, q1, q2, by simp only [RepV]; exact hr⟩
/-- what the loads of the region read in which the clause is asked -/
def UpR (M : Program) (w2 : World) (P2 : Prot) (b0 b8 : Nat) (x : Dom) (v0 v1 v2 : Value) (T : List Nat) (bl ol : Nat) (vl : Value) (w' : World) : Prop :=
  (w'.cell? ⟨b8, 0, none⟩ = some v0 ∧ w'.cell? ⟨b8, 1, none⟩ = some v1 ∧ w'.cell? ⟨b8, 2, none⟩ = some v2) ∧ w'.cell? ⟨bl, ol, none⟩ = some vl ∧ AsideQ (∃ P', UpS M w2 P2 b0 b8 x v0 v1 v2 T w' P')
theorem UpS.toR (h : UpS M w2 P2 b0 b8 x v0 v1 v2 T w P) {bl ol : Nat} {vl : Value} (hP : P2 bl ol) (hc : w2.cell? ⟨bl, ol, none⟩ = some vl) : UpR M w2 P2 b0 b8 x v0 v1 v2 T bl ol vl w :=
  ⟨(three_at h.row).1, h.ext.later.cell _ _ _ hP hc, ⟨P, h⟩⟩
theorem UpS.drew (h : UpS M w2 P2 b0 b8 x v0 v1 v2 T w P) : UpS M w2 P2 b0 b8 x v0 v1 v2 T w.drew P := h.later (pext_drew h.ext.there)
theorem UpS.alloc (h : UpS M w2 P2 b0 b8 x v0 v1 v2 T w P) (o : Obj) : UpS M w2 P2 b0 b8 x v0 v1 v2 T (w.alloc o) P := h.later (pext_bel ((Below.refl _ _).alloc (Nat.le_refl _) _) h.ext.there)
theorem at_alloc {M : Program} {f : FuncId} {a : Array Value} {w : World} {o : Obj} {R : Ending → World → Prop} (h : Calls M f a (w.alloc o).drew R) : Calls M f a (w.alloc o).drew R := h
/-- a clause asked -/
theorem stat_call {B : Base} {FS : Ty.dens [domT, claT] → Unit → Option ((Int × Lit × Unit) × Unit)} (hS : SigB B M 60 ⟨[domT, claT], [], none, .p, .tup [.int .i64, litT], .p, FS⟩) (hb : BaseOk M B w2 P2) (h : UpS M w2 P2 b0 b8 x v0 v1 v2 T w P) {bl ol : Nat} {vl : Value} {l : List Lit} (hP : P2 bl ol) (hc : w2.cell? ⟨bl, ol, none⟩ = some vl) (hl : RepV M claT w2 P2 .p l vl [])
    {st : Int} {y0 y1 y2 : Int} (hF : (FS (x, l, ()) ()).map (fun s => (s.1.1, s.1.2.1)) = some (st, (y0, y1, y2, ()))) : Calls M 60 #[.agg #[v0, v1, v2], vl] w fun e w' => e = .returned (.tuple #[.int .i64 st, .agg #[.int .i64 y0, .int .i64 y1, .int .i64 y2]]) ∧ UpR M w2 P2 b0 b8 x v0 v1 v2 T bl ol vl w' ∧
      AsideQ (∃ P', UpS M w2 P2 b0 b8 x v0 v1 v2 T w' P' ∧ PExt [] w P w' P') := by
  obtain ⟨⟨⟨s0, s1, u1⟩, u2⟩, hF2, e2⟩ := Option.map_eq_some_iff.1 hF
  simp only [Prod.mk.injEq] at e2
  obtain ⟨rfl, rfl⟩ := e2
  refine (h.call hS hb (by rfl) (xs := (x, l, ())) (vs := [.agg #[v0, v1, v2], vl]) ?_ hF2).mono ?_
  · simp only [RepVs, Md.hd, Md.tl]
    exact ⟨_, _, [], [], rfl, rfl, h.lent, _, _, [], [], rfl, rfl, keep_p hl (h.ext.later.trans (Later.add _ _ _)), rfl, rfl⟩
  · rintro e w' ⟨u, P', Tr, rfl, hp, hr, -⟩
    have hu := h.later hp
    refine ⟨?_, hu.toR hP hc, ⟨P', hu, hp⟩⟩
    simp only [RepV, RepVs, RepCs, RepC, Md.hd, Md.tl] at hr
    obtain ⟨vs, rfl, v, r, T1, T2, rfl, -, ⟨rfl, -⟩, v', r', T3, T4, rfl, -, ⟨cs, rfl, c1, d1, T5, T6, rfl, -, ⟨rfl, -⟩, c2, d2, T7, T8, rfl, -, ⟨rfl, -⟩, c3, d3, T9, T0, rfl, -, ⟨rfl, -⟩, rfl, -⟩, rfl, -⟩ := hr
    rfl
/-- the variable of the literal written behind the call -/
theorem UpS.other (h : UpS M w2 P2 b0 b8 x v0 v1 v2 T w P) {b : Nat} {c0 c1 c2 u0 u1 u2 : Value} {e : TypeId} (hb : ∀ o, ¬ P b o) (hb8 : b ≠ b8) (hT : b ∉ T) (hlt : w2.heap.size ≤ b) (hr : w.heap[b]? = some (.cells #[c0, c1, c2] e (0, 0))) :
    UpS M w2 P2 b0 b8 x v0 v1 v2 T (((w.setCell ⟨b, 0, none⟩ u0).setCell ⟨b, 1, none⟩ u1).setCell ⟨b, 2, none⟩ u2) P ∧ (((w.setCell ⟨b, 0, none⟩ u0).setCell ⟨b, 1, none⟩ u1).setCell ⟨b, 2, none⟩ u2).heap[b]? = some (.cells #[u0, u1, u2] e (0, 0)) := by
  obtain ⟨q, qr⟩ := set3 (u0 := u0) (u1 := u1) (u2 := u2) h.ext.there hb hr
  refine ⟨⟨h.ext.trans q fun b' hb' => .inl (by simp at hb'; omega), h.free, Nat.lt_of_lt_of_le h.lt q.size, ?_, RepV.mono _ h.rep (q.keeps T fun b' hb' => ⟨(h.bd b' hb').2, by simp; exact fun e => hT (e ▸ hb')⟩), h.nd, fun b' hb' => ⟨(h.bd b' hb').1, Nat.lt_of_lt_of_le (h.bd b' hb').2 q.size⟩, h.out⟩, qr⟩
  rw [q.block _ h.lt (by simp; exact fun e => hb8 e.symm)]
  exact h.row
theorem empt_call {B : Base} {f : FuncId} {FE : Ty.dens [domT] → Unit → Option (Bool × Unit)} (hE : SigB B M f ⟨[domT], [], none, .p, .bool, .p, FE⟩) (hb : BaseOk M B w2 P2) (h : UpS M w2 P2 b0 b8 x v0 v1 v2 T w P) {e0 : Bool} (hF : (FE (x, ()) ()).map (·.1) = some e0) :
    Calls M f #[.agg #[v0, v1, v2]] w fun e w' => ∃ P', e = .returned (.bool e0) ∧ UpS M w2 P2 b0 b8 x v0 v1 v2 T w' P' := by
  obtain ⟨⟨e1, u1⟩, hF2, rfl⟩ := Option.map_eq_some_iff.1 hF
  refine (h.call hE hb (by rfl) (xs := (x, ())) (vs := [.agg #[v0, v1, v2]]) ?_ hF2).mono ?_
  · simp only [RepVs, Md.hd, Md.tl]
    exact ⟨_, _, [], [], rfl, rfl, h.lent, rfl, rfl⟩
  · rintro e w' ⟨u, P', Tr, rfl, hp, hr, -⟩
    simp only [RepV] at hr
    exact ⟨P', by rw [hr.1], h.later hp⟩
theorem idx_call {B : Base} {f g : FuncId} {FI : Ty.dens [.sl 90 claT, .fn [claT] .bool] → Unit → Option (Int × Unit)} {FK : Ty.dens [claT] → Ty.dens [domT] → Option (Bool × Unit)} (hI : SigB B M f ⟨[.sl 90 claT, .fn [claT] .bool], [], none, .p, .int .i64, .p, FI⟩) (hK : SigB B M g ⟨[claT], [domT], none, .p, .bool, .p, FK⟩)
    (hb : BaseOk M B w2 P2) {ls : List (List Lit)} {vl : Value} (hl : RepV M (.sl 90 claT) w2 P2 .p ls vl []) (h : UpS M w2 P2 b0 b8 x v0 v1 v2 T w P) {n : Int} (hF : (FI (ls, (fun l => (FK l (x, ())).map (·.1)), ()) ()).map (·.1) = some n) :
    Calls M f #[vl, .func (.func g) #[] #[.pointer (some ⟨b8, 0, none⟩)]] w fun e w' => ∃ P', e = .returned (.int .i64 n) ∧ UpS M w2 P2 b0 b8 x v0 v1 v2 T w' P' := by
  obtain ⟨⟨e1, u1⟩, hF2, rfl⟩ := Option.map_eq_some_iff.1 hF
  refine (h.call hI hb (by rfl) (xs := (ls, (fun l => (FK l (x, ())).map (·.1)), ())) (vs := [vl, .func (.func g) #[] #[.pointer (some ⟨b8, 0, none⟩)]]) ?_ hF2).mono ?_
  · have hl2 := h.ext.later.trans (Later.add w P (b8 :: T))
    have hf := func_cap hK (hb.later hl2) rfl h.cap
    have h1 := keep_p hl hl2
    simp only [RepVs, Md.hd, Md.tl]
    exact ⟨_, _, [], [], rfl, rfl, h1, _, _, [], [], rfl, rfl, hf, rfl, rfl⟩
  · rintro e w' ⟨u, P', Tr, rfl, hp, hr, -⟩
    simp only [RepV] at hr
    exact ⟨P', by rw [hr.1], h.later hp⟩
theorem rest_call {B : Base} {f : FuncId} {FR : Ty.dens [domT, litT] → Unit → Option (Dom × Unit)} (hR : SigB B M f ⟨[domT, litT], [], none, .p, domT, Ty.all domT, FR⟩) (hb : BaseOk M B w2 P2) (h : UpS M w2 P2 b0 b8 x v0 v1 v2 T w P) {y0 y1 y2 : Int} {y : Dom} (hF : (FR (x, (y0, y1, y2, ()), ()) ()).map (·.1) = some y) :
    Calls M f #[.agg #[v0, v1, v2], .agg #[.int .i64 y0, .int .i64 y1, .int .i64 y2]] w fun e w' => ∃ P' T' a0 n0 c0 a1 n1 c1 a2 n2 c2, e = .returned (.agg #[.slice a0 n0 c0, .slice a1 n1 c1, .slice a2 n2 c2]) ∧ UpS M w2 P2 b0 b8 x v0 v1 v2 T w' P' ∧
      RepV M domT w' P' domM y (.agg #[.slice a0 n0 c0, .slice a1 n1 c1, .slice a2 n2 c2]) T' ∧ T'.Nodup ∧ ∀ b ∈ T', w.heap.size ≤ b ∧ b < w'.heap.size := by
  obtain ⟨⟨e1, u1⟩, hF2, rfl⟩ := Option.map_eq_some_iff.1 hF
  refine (h.call hR hb (by rfl) (xs := (x, (y0, y1, y2, ()), ())) (vs := [.agg #[v0, v1, v2], .agg #[.int .i64 y0, .int .i64 y1, .int .i64 y2]]) ?_ hF2).mono ?_
  · have h1 : RepV M litT w (P.add w (b8 :: T)) .p (y0, y1, y2, ()) (.agg #[.int .i64 y0, .int .i64 y1, .int .i64 y2]) [] := by
      simp only [RepV, RepCs, RepC]
      exact ⟨[.int .i64 y0, .int .i64 y1, .int .i64 y2], rfl, [.int .i64 y0], [.int .i64 y1, .int .i64 y2], [], [], rfl, rfl, ⟨rfl, rfl⟩, [.int .i64 y1], [.int .i64 y2], [], [], rfl, rfl, ⟨rfl, rfl⟩, [.int .i64 y2], [], [], [], rfl, rfl, ⟨rfl, rfl⟩, rfl, rfl⟩
    simp only [RepVs, Md.hd, Md.tl]
    exact ⟨_, _, [], [], rfl, rfl, h.lent, _, _, [], [], rfl, rfl, h1, rfl, rfl⟩
  · rintro e w' ⟨u, P', T', rfl, hp, hr, hn, hb'⟩
    obtain ⟨a0, n0, c0, a1, n1, c1, a2, n2, c2, rfl⟩ := dom_slices hr (.inl rfl)
    exact ⟨P', T', a0, n0, c0, a1, n1, c1, a2, n2, c2, rfl, h.later hp, hr, hn, hb'⟩
theorem UpR.ofX {wx : World} {Px : Prot} (h : AsideQ (∃ P', UpS M w2 P2 b0 b8 x v0 v1 v2 T w P' ∧ PExt [] wx Px w P')) {bl ol : Nat} {vl : Value} (hP : P2 bl ol) (hc : w2.cell? ⟨bl, ol, none⟩ = some vl) (o : Obj) : UpR M w2 P2 b0 b8 x v0 v1 v2 T bl ol vl (w.alloc o) := by
  obtain ⟨P', hu, -⟩ := h.out
  exact (hu.alloc o).toR hP hc
theorem up_a {wx : World} {Px : Prot} (h : AsideQ (∃ P', UpS M w2 P2 b0 b8 x v0 v1 v2 T w P' ∧ PExt [] wx Px w P')) (u0 u1 u2 : Value) : ∃ P', UpS M w2 P2 b0 b8 x v0 v1 v2 T (w.alloc (.cells #[u0, u1, u2] 86)) P' ∧ (w.alloc (.cells #[u0, u1, u2] 86)).heap[w.heap.size]? = some (.cells #[u0, u1, u2] 86 (0, 0)) := by
  obtain ⟨P', hu, -⟩ := h.out
  exact ⟨P', hu.alloc _, heap_alloc_new _ _⟩
theorem up_b {w5 w6 : World} {P5 : Prot} {c0 c1 c2 : Value} (h5 : UpS M w2 P2 b0 b8 x v0 v1 v2 T w5 P5) (h : AsideQ (∃ P', UpS M w2 P2 b0 b8 x v0 v1 v2 T w6 P' ∧ PExt [] (w5.alloc (.cells #[c0, c1, c2] 86)).drew P5 w6 P')) (u0 u1 u2 : Value) :
    w6.heap[w5.heap.size]? = some (.cells #[c0, c1, c2] 86 (0, 0)) ∧ ∃ P', UpS M w2 P2 b0 b8 x v0 v1 v2 T (((w6.setCell ⟨w5.heap.size, 0, none⟩ u0).setCell ⟨w5.heap.size, 1, none⟩ u1).setCell ⟨w5.heap.size, 2, none⟩ u2) P' ∧
      (((w6.setCell ⟨w5.heap.size, 0, none⟩ u0).setCell ⟨w5.heap.size, 1, none⟩ u1).setCell ⟨w5.heap.size, 2, none⟩ u2).heap[w5.heap.size]? = some (.cells #[u0, u1, u2] 86 (0, 0)) := by
  obtain ⟨P', hu, hp⟩ := h.out
  have hn : (w5.alloc (.cells #[c0, c1, c2] 86)).drew.heap[w5.heap.size]? = some (.cells #[c0, c1, c2] 86 (0, 0)) := heap_alloc_new w5 _
  have hlt := (Array.getElem?_eq_some_iff.1 hn).1
  have hr : w6.heap[w5.heap.size]? = some (.cells #[c0, c1, c2] 86 (0, 0)) := by
    rw [hp.block _ hlt (by simp)]
    exact hn
  have hf : ∀ o, ¬ P' w5.heap.size o := free_later hp hlt fun o ho => by
    obtain ⟨v, hv⟩ := h5.ext.there _ _ ho
    have := World.block_lt_of_cell? w5 ⟨_, o, none⟩ hv
    simp at this
  obtain ⟨q1, q2⟩ := hu.other (u0 := u0) (u1 := u1) (u2 := u2) hf (by have := h5.lt; omega) (fun hb => by have := (h5.bd _ hb).2; omega) h5.ext.size hr
  exact ⟨hr, P', q1, q2⟩
theorem UpS.start {wa w1 : World} {Pa P1 : Prot} (hp : PExt [] wa Pa w1 P1) (hr : RepV M domT w1 P1 domM x (.agg #[v0, v1, v2]) T) (hn : T.Nodup) (hb : ∀ b ∈ T, wa.heap.size ≤ b ∧ b < w1.heap.size) :
    UpS M (w1.alloc (.cells #[v0, v1, v2] 50)) P1 wa.heap.size w1.heap.size x v0 v1 v2 T (w1.alloc (.cells #[v0, v1, v2] 50)) P1 := by
  have hq : PExt [] w1 P1 (w1.alloc (.cells #[v0, v1, v2] 50)) P1 := pext_bel ((Below.refl _ _).alloc (Nat.le_refl _) _) hp.there
  have hf : ∀ o, ¬ P1 w1.heap.size o := fun o ho => by
    obtain ⟨v, hv⟩ := hp.there _ _ ho
    have := World.block_lt_of_cell? w1 ⟨_, o, none⟩ hv
    simp at this
  have hs : (w1.alloc (.cells #[v0, v1, v2] 50)).heap.size = w1.heap.size + 1 := by simp
  refine ⟨⟨rfl, rfl, rfl, Nat.le_refl _, fun _ _ _ => rfl, fun k hk o => ?_, fun _ _ h => h, fun _ _ h => .inl h, hq.there⟩, hf, by omega, heap_alloc_new _ _, keep_own hr hq fun b hb' => (hb b hb').2, hn, fun b hb' => ⟨(hb b hb').1, by have := (hb b hb').2; omega⟩, fun hm => by have := (hb _ hm).2; omega⟩
  simp at hk
  subst hk
  exact hf o
end
set_option maxRecDepth 100000 in
theorem Tryz.up_post {ts : List Ty} {w0 w2 w : World} {P0 P2 P : Prot} {b0 b6 b8 : Nat} {x : Dom} {v0 v1 v2 c0 c1 c2 : Value} {T : List Nat} {vs : List Value} {f : Bool} (h : UpS Tryz.prog w2 P2 b0 b8 x v0 v1 v2 T w P) (hp : PExt [] w0 P0 w2 P2) (h0 : w0.heap.size ≤ b0) (h6 : b6 < b0) (h60 : w0.heap.size ≤ b6) (h8 : w0.heap.size ≤ b8) (h68 : b6 ≠ b8) (h62 : b6 < w2.heap.size) (hn6 : ∀ o, ¬ P2 b6 o) (hr6 : w2.heap[b6]? = some (.cells #[c0, c1, c2] 50 (0, 0)))
    {a : Act} (hd : a.defers = []) (ha6 : a.tmps.getD 6 undef = .pointer (some ⟨b6, 0, none⟩)) (ha7 : a.tmps.getD 7 undef = .bool f) :
    bodyPost Tryz.prog Tryz.f19 (fun e w' => ∃ u P' Tr Tq, e = .returned u ∧ PExt [] w0 P0 w' P' ∧ RepV Tryz.prog (.tup [domT, .bool]) w' P' (Ty.all (.tup [domT, .bool])) (x, f, ()) u Tr ∧ IoR Tryz.prog w' P' .p [.st ts, .sl 90 claT, domT] none () vs Tq ∧ (Tr ++ Tq).Nodup ∧ ∀ (b : Nat), b ∈ Tr ++ Tq → b ∈ [] ∨ w0.heap.size ≤ b ∧ b < w'.heap.size) .ret a
      (((w.setCell ⟨b6, 0, none⟩ v0).setCell ⟨b6, 1, none⟩ v1).setCell ⟨b6, 2, none⟩ v2) := by
  obtain ⟨q0, q1, P', T', g1, g2, g3, g4⟩ := h.ret hp h0 h6 h60 h8 h68 h62 hn6 hr6 f
  refine bodyPost_ret (P := Tryz.prog) (fn := Tryz.f19) (v := .tuple #[.agg #[v0, v1, v2], .bool f]) ?_ hd ?_
  · rw [results_cell_tmp rfl, ha6, ha7]
    simp [asAddr, Result.andThen]
    rw [run_loadVar_row _ _ 50 50 _ _ _ q1 Tryz.underlying50 rfl rfl]
  · exact ⟨_, P', T', [], rfl, g1, g2, rfl, by simpa using g3, fun b hb => .inr (g4 b (by simpa using hb))⟩
set_option maxRecDepth 100000 in
set_option maxHeartbeats 4000000 in
theorem Tryz.up_ok {ts : List Ty} (hts : Ty.sizes ts = 5) {B : Base} {FC : Ty.dens [domT] → Unit → Option (Dom × Unit)} {FD : Ty.dens [.st ts, domT] → Unit → Option (Bool × Unit)} {FE : Ty.dens [domT] → Unit → Option (Bool × Unit)} {FI : Ty.dens [.sl 90 claT, .fn [claT] .bool] → Unit → Option (Int × Unit)}
    {FK : Ty.dens [claT] → Ty.dens [domT] → Option (Bool × Unit)} {FS : Ty.dens [domT, claT] → Unit → Option ((Int × Lit × Unit) × Unit)} {FR : Ty.dens [domT, litT] → Unit → Option (Dom × Unit)}
    (hC : SigB B Tryz.prog 55 ⟨[domT], [], none, .p, domT, Ty.all domT, FC⟩) (hD : SigB B Tryz.prog 56 ⟨[.st ts, domT], [], none, .p, .bool, .p, FD⟩) (hE : SigB B Tryz.prog 57 ⟨[domT], [], none, .p, .bool, .p, FE⟩) (hI : SigB B Tryz.prog 58 ⟨[.sl 90 claT, .fn [claT] .bool], [], none, .p, .int .i64, .p, FI⟩)
    (hK : SigB B Tryz.prog 59 ⟨[claT], [domT], none, .p, .bool, .p, FK⟩) (hS : SigB B Tryz.prog 60 ⟨[domT, claT], [], none, .p, .tup [.int .i64, litT], .p, FS⟩) (hR : SigB B Tryz.prog 61 ⟨[domT, litT], [], none, .p, domT, Ty.all domT, FR⟩) :
    SigB B Tryz.prog 19 ⟨[.st ts, .sl 90 claT, domT], [], none, .p, .tup [domT, .bool], Ty.all (.tup [domT, .bool]), upF FC FD FE FI FK FS FR⟩ := by
  refine ⟨⟨Tryz.f19, Tryz.func19, by decide, rfl⟩, fun w P xs ys vs caps Ti y hb ht hv hTi hTp hcap hy => ?_⟩
  obtain ⟨p, ls, d, u⟩ := xs
  change List (List Lit) at ls
  change Dom at d
  cases u
  replace hv : ArgsR Tryz.prog w P .p none [.st ts, .sl 90 claT, domT] (p, ls, d, ()) vs Ti := hv
  replace hcap : caps = [] := hcap
  replace hy : upF FC FD FE FI FK FS FR (p, ls, d, ()) ys = some y := hy
  simp only [ArgsR] at hv
  obtain ⟨v0, r, rfl, h0, v1, r1, rfl, h1, v2, r2, rfl, h2, rfl, rfl⟩ := hv
  subst hcap
  unfold upF at hy
  obtain ⟨⟨c, u1⟩, hFC, hy⟩ := Option.bind_eq_some_iff.1 hy
  obtain ⟨⟨fm, u2⟩, hFD, hy⟩ := Option.bind_eq_some_iff.1 hy
  cases u1
  cases u2
  obtain ⟨a0, n0, k0, a1, n1, k1, a2, n2, k2, rfl⟩ := dom_slices h2 (.inr rfl)
  have h0' := h0
  simp only [RepV] at h0'
  obtain ⟨cs, rfl, hcs⟩ := h0'
  have hlen := (RepCs.length ts hcs).1
  rw [hts] at hlen
  match cs, hlen with
  | [p0, p1, p2, p3, p4], _ =>
  have hp2 : PExt [] w P (((w.alloc (Obj.cells #[p0, p1, p2, p3, p4] 37)).alloc (Obj.cells #[Value.slice a0 n0 k0, Value.slice a1 n1 k1, Value.slice a2 n2 k2] 50)).alloc (Obj.cells #[Value.slice none 0 0, Value.slice none 0 0, Value.slice none 0 0] 50)) P :=
    pext_bel ((((Below.refl _ _).alloc (Nat.le_refl _) _).alloc (by simp) _).alloc (by simp; omega) _) ht
  have hcall := call_plain hC (hb.later hp2.later) hp2.there (xs := (d, ())) (ys := ()) (vs := [.agg #[.slice a0 n0 k0, .slice a1 n1 k1, .slice a2 n2 k2]]) (caps := []) (by
    simp only [RepVs, Md.hd, Md.tl]
    exact ⟨_, _, [], [], rfl, rfl, keep_p h2 hp2.later, rfl, rfl⟩) rfl hFC
  obtain ⟨wa, hwa⟩ : ∃ wa, wa = (((w.alloc (Obj.cells #[p0, p1, p2, p3, p4] 37)).alloc (Obj.cells #[Value.slice a0 n0 k0, Value.slice a1 n1 k1, Value.slice a2 n2 k2] 50)).alloc (Obj.cells #[Value.slice none 0 0, Value.slice none 0 0, Value.slice none 0 0] 50)) := ⟨_, rfl⟩
  rw [← hwa] at hcall hp2
  have WA : AsideQ (wa.heap.size = w.heap.size + 1 + 1 + 1 ∧ wa.heap[w.heap.size]? = some (.cells #[p0, p1, p2, p3, p4] 37 (0, 0)) ∧ wa.heap[w.heap.size + 1]? = some (.cells #[.slice a0 n0 k0, .slice a1 n1 k1, .slice a2 n2 k2] 50 (0, 0)) ∧ wa.heap[w.heap.size + 1 + 1]? = some (.cells #[.slice none 0 0, .slice none 0 0, .slice none 0 0] 50 (0, 0))) := by
    subst hwa
    have he : ∀ (w : World) (o : Obj), (w.alloc o).heap = w.heap.push o := fun _ _ => rfl
    refine ⟨⟨by simp only [he, Array.size_push], ?_, ?_, ?_⟩⟩ <;> simp only [he, Array.getElem?_push, Array.size_push] <;> repeat (first | rfl | rw [if_pos rfl] | rw [if_neg (by omega)])
  have HP : AsideQ (PExt [] w P wa P) := ⟨hp2⟩
  have X : AsideQ (BaseOk Tryz.prog B w P ∧ There w P ∧ RepV Tryz.prog (.st ts) w P .p p (.agg #[p0, p1, p2, p3, p4]) [] ∧ RepV Tryz.prog (.sl 90 claT) w P .p ls v1 [] ∧ RepV Tryz.prog domT w P .p d (.agg #[.slice a0 n0 k0, .slice a1 n1 k1, .slice a2 n2 k2]) []) := ⟨hb, ht, h0, h1, h2⟩
  have SG : AsideQ (SigB B Tryz.prog 56 ⟨[.st ts, domT], [], none, .p, .bool, .p, FD⟩ ∧ SigB B Tryz.prog 57 ⟨[domT], [], none, .p, .bool, .p, FE⟩ ∧ SigB B Tryz.prog 58 ⟨[.sl 90 claT, .fn [claT] .bool], [], none, .p, .int .i64, .p, FI⟩ ∧
    SigB B Tryz.prog 59 ⟨[claT], [domT], none, .p, .bool, .p, FK⟩ ∧ SigB B Tryz.prog 60 ⟨[domT, claT], [], none, .p, .tup [.int .i64, litT], .p, FS⟩ ∧ SigB B Tryz.prog 61 ⟨[domT, litT], [], none, .p, domT, Ty.all domT, FR⟩) := ⟨hD, hE, hI, hK, hS, hR⟩
  obtain ⟨hy'⟩ : AsideQ _ := ⟨hy⟩
  have XY : AsideQ ((if fm = true then (upL (fun d => (FE (d, ()) ()).map (·.1)) (fun d => (FI (ls, (fun l => (FK l (d, ())).map (·.1)), ()) ()).map (·.1)) ls (fun d l => (FS (d, l, ()) ()).map fun s => (s.1.1, s.1.2.1)) (fun d l => (FR (d, l, ()) ()).map (·.1)) 1048576 c).map fun r => ((r.1, r.2, ()), ()) else some ((c, false, ()), ())) = some y) := ⟨hy⟩
  have XD : AsideQ (FD (p, d, ()) () = some (fm, ())) := ⟨hFD⟩
  clear hC hD hE hI hK hS hR hcs hp2 h0 h1 h2 hTi hTp hb ht hFC hFD hts hy hy'
  go_enter Tryz.func19, Tryz.ntmps19
  go_wp2_with fail
  rw [← hwa]
  refine hcall.mono ?_
  rintro e w1 ⟨v, P1, T, rfl, hp1, hrep, hnd, hT⟩
  obtain ⟨x0, m0, l0, x1, m1, l1, x2, m2, l2, rfl⟩ := dom_slices hrep (.inl rfl)
  have U0 : AsideQ (UpS Tryz.prog (w1.alloc (.cells #[.slice x0 m0 l0, .slice x1 m1 l1, .slice x2 m2 l2] 50)) P1 wa.heap.size w1.heap.size c (.slice x0 m0 l0) (.slice x1 m1 l1) (.slice x2 m2 l2) T (w1.alloc (.cells #[.slice x0 m0 l0, .slice x1 m1 l1, .slice x2 m2 l2] 50)) P1) := ⟨UpS.start hp1 hrep hnd hT⟩
  have hs1 := hp1.size
  have e3 : (w1.alloc (.cells #[.slice x0 m0 l0, .slice x1 m1 l1, .slice x2 m2 l2] 50)).heap[w.heap.size]? = some (.cells #[p0, p1, p2, p3, p4] 37 (0, 0)) := by
    rw [heap_alloc_old _ _ (by have := WA.out.1; omega), hp1.block _ (by have := WA.out.1; omega) (by simp)]
    exact WA.out.2.1
  have e5 : (w1.alloc (.cells #[.slice x0 m0 l0, .slice x1 m1 l1, .slice x2 m2 l2] 50)).heap[w.heap.size + 1]? = some (.cells #[.slice a0 n0 k0, .slice a1 n1 k1, .slice a2 n2 k2] 50 (0, 0)) := by
    rw [heap_alloc_old _ _ (by have := WA.out.1; omega), hp1.block _ (by have := WA.out.1; omega) (by simp)]
    exact WA.out.2.2.1
  have e6 : (w1.alloc (.cells #[.slice x0 m0 l0, .slice x1 m1 l1, .slice x2 m2 l2] 50)).heap[w.heap.size + 1 + 1]? = some (.cells #[.slice none 0 0, .slice none 0 0, .slice none 0 0] 50 (0, 0)) := by
    rw [heap_alloc_old _ _ (by have := WA.out.1; omega), hp1.block _ (by have := WA.out.1; omega) (by simp)]
    exact WA.out.2.2.2
  have e8 : (w1.alloc (.cells #[.slice x0 m0 l0, .slice x1 m1 l1, .slice x2 m2 l2] 50)).heap[w1.heap.size]? = some (.cells #[.slice x0 m0 l0, .slice x1 m1 l1, .slice x2 m2 l2] 50 (0, 0)) := heap_alloc_new _ _
  obtain ⟨c30, c31, c32, c33, c34⟩ := five_at e3
  obtain ⟨⟨c50, c51, c52⟩, -⟩ := three_at e5
  obtain ⟨⟨c80, c81, c82⟩, f80, f81, f82⟩ := three_at e8
  have E2 : AsideQ ((w1.alloc (.cells #[.slice x0 m0 l0, .slice x1 m1 l1, .slice x2 m2 l2] 50)).heap[w.heap.size + 1 + 1]? = some (.cells #[.slice none 0 0, .slice none 0 0, .slice none 0 0] 50 (0, 0)) ∧ wa.heap.size ≤ w1.heap.size ∧ (w1.alloc (.cells #[.slice x0 m0 l0, .slice x1 m1 l1, .slice x2 m2 l2] 50)).heap.size = w1.heap.size + 1) := ⟨e6, hs1, by simp⟩
  have X2 : AsideQ (PExt [] wa P w1 P1) := ⟨hp1⟩
  clear hp1 hrep hnd hT hcall e3 e5 e6 e8 hs1
  have PW : AsideQ (PExt [] w P (w1.alloc (.cells #[.slice x0 m0 l0, .slice x1 m1 l1, .slice x2 m2 l2] 50)) P1) := ⟨(HP.out.trans0 X2.out).trans0 (pext_bel ((Below.refl _ _).alloc (Nat.le_refl _) _) X2.out.there)⟩
  go_wp2_with fail
  generalize hw2 : w1.alloc (.cells #[.slice x0 m0 l0, .slice x1 m1 l1, .slice x2 m2 l2] 50) = w2 at *
  generalize w1.heap.size = b8 at *
  clear hw2 c30 c31 c32 c33 c34 c50 c51 c52 c80 c81 c82 f80 f81 f82
  have XB : AsideQ (BaseOk Tryz.prog B w2 P1 ∧ RepV Tryz.prog (.st ts) w2 P1 .p p (.agg #[p0, p1, p2, p3, p4]) [] ∧ RepV Tryz.prog (.sl 90 claT) w2 P1 .p ls v1 [] ∧ RepV Tryz.prog domT w2 P1 .p d (.agg #[.slice a0 n0 k0, .slice a1 n1 k1, .slice a2 n2 k2]) []) :=
    ⟨X.out.1.later PW.out.later, keep_p X.out.2.2.1 PW.out.later, keep_p X.out.2.2.2.1 PW.out.later, keep_p X.out.2.2.2.2 PW.out.later⟩
  have hn6 : ∀ o, ¬ P1 (w.heap.size + 1 + 1) o := fun o ho => by
    rcases PW.out.old _ _ ho with h | h | h
    · obtain ⟨v, hv⟩ := X.out.2.1 _ _ h
      have := World.block_lt_of_cell? w ⟨_, o, none⟩ hv
      simp at this
      omega
    · have := X2.out.old _ _ ho
      rcases this with h | h | h
      · obtain ⟨v, hv⟩ := X.out.2.1 _ _ h
        have := World.block_lt_of_cell? w ⟨_, o, none⟩ hv
        simp at this
        omega
      · have := WA.out.1
        omega
      · simp at h
    · simp at h
  have X6 : AsideQ (∀ o, ¬ P1 (w.heap.size + 1 + 1) o) := ⟨hn6⟩
  clear hn6
  refine (U0.out.call SG.out.1 XB.out.1 rfl (xs := (p, d, ())) (vs := [.agg #[p0, p1, p2, p3, p4], .agg #[.slice a0 n0 k0, .slice a1 n1 k1, .slice a2 n2 k2]]) (by
    simp only [RepVs, Md.hd, Md.tl]
    exact ⟨_, _, [], [], rfl, rfl, keep_p XB.out.2.1 (Later.add _ _ _), _, _, [], [], rfl, rfl, keep_p XB.out.2.2.2 (Later.add _ _ _), rfl, rfl⟩) XD.out).mono ?_
  rintro e w3 ⟨u, P3, Tr, rfl, hp3, hr, -⟩
  simp only [RepV] at hr
  obtain ⟨rfl, -⟩ := hr
  have U3 : AsideQ (UpS Tryz.prog w2 P1 wa.heap.size b8 c (.slice x0 m0 l0) (.slice x1 m1 l1) (.slice x2 m2 l2) T w3 P3) := ⟨U0.out.later hp3⟩
  clear hp3
  cases fm with
  | false =>
    obtain ⟨⟨c80, c81, c82⟩, f80, f81, f82⟩ := three_at U3.out.row
    have R := U3.out.ret PW.out (by have := WA.out.1; omega) (b6 := w.heap.size + 1 + 1) (by have := WA.out.1; omega) (by omega) (by have := WA.out.1; have := E2.out.2.1; omega) (by have := WA.out.1; have := E2.out.2.1; omega) (by have := WA.out.1; have := E2.out.2.1; have := E2.out.2.2; omega) X6.out E2.out.1 false
    obtain ⟨⟨c60, c61, c62⟩, f60, f61, f62⟩ := three_at R.1
    clear R
    go_wp2
    (try simp only [Exit.inBlock, Exit.then])
    have hy := Option.some.inj (show some ((c, false, ()), ()) = some y from XY.out)
    subst hy
    exact Tryz.up_post U3.out PW.out (by have := WA.out.1; omega) (b6 := w.heap.size + 1 + 1) (by have := WA.out.1; omega) (by omega) (by have := WA.out.1; have := E2.out.2.1; omega) (by have := WA.out.1; have := E2.out.2.1; omega) (by have := WA.out.1; have := E2.out.2.1; have := E2.out.2.2; omega) X6.out E2.out.1 rfl rfl rfl
  | true =>
    have XL : AsideQ ((upL (fun d => (FE (d, ()) ()).map (·.1)) (fun d => (FI (ls, (fun l => (FK l (d, ())).map (·.1)), ()) ()).map (·.1)) ls (fun d l => (FS (d, l, ()) ()).map fun s => (s.1.1, s.1.2.1)) (fun d l => (FR (d, l, ()) ()).map (·.1)) 1048576 c).map (fun r => ((r.1, r.2, ()), ())) = some y) := ⟨XY.out⟩
    clear XY XD
    go_wp2
    go_loopg [] 1048576 (fun k wr => ∃ (x : Dom) (T : List Nat) (Pr : Prot) (x0 x1 x2 : Option Addr) (m0 l0 m1 l1 m2 l2 : Nat), AsideQ (UpS Tryz.prog w2 P1 wa.heap.size b8 x (.slice x0 m0 l0) (.slice x1 m1 l1) (.slice x2 m2 l2) T wr Pr) ∧
      AsideQ ((upL (fun d => (FE (d, ()) ()).map (·.1)) (fun d => (FI (ls, (fun l => (FK l (d, ())).map (·.1)), ()) ()).map (·.1)) ls (fun d l => (FS (d, l, ()) ()).map fun s => (s.1.1, s.1.2.1)) (fun d l => (FR (d, l, ()) ()).map (·.1)) k x).map (fun r => ((r.1, r.2, ()), ())) = some y))
    case atStart => exact ⟨c, T, P3, x0, x1, x2, m0, l0, m1, l1, m2, l2, U3, XL⟩
    case round =>
      clear U0 U3 XL
      obtain ⟨x, T, Pr, x0, x1, x2, m0, l0, m1, l1, m2, l2, U, L⟩ := hrel
      cases gk with
      | zero => cases L.out
      | succ k =>
        obtain ⟨r, hr, hy⟩ := Option.map_eq_some_iff.1 L.out
        simp only [upL] at hr
        obtain ⟨e0, he, hr⟩ := Option.bind_eq_some_iff.1 hr
        have CE := empt_call SG.out.2.1 XB.out.1 U.out he
        have hmf : ∀ (fn : Fn) (first cap : Array Value) (w : World), (Instr.makeFunc fn first cap).run Tryz.prog w = .ok (.func fn first cap) w := fun _ _ _ _ => rfl
        have HY : AsideQ (((r.1, r.2, ()), ()) = y) := ⟨hy⟩
        obtain ⟨⟨c80, c81, c82⟩, f80, f81, f82⟩ := three_at U.out.row
        clear L hy he
        have AR : AsideQ (w.heap.size ≤ wa.heap.size ∧ w.heap.size + 1 + 1 < wa.heap.size ∧ w.heap.size ≤ w.heap.size + 1 + 1 ∧ w.heap.size ≤ b8 ∧ w.heap.size + 1 + 1 ≠ b8 ∧ w.heap.size + 1 + 1 < w2.heap.size) := by
          have := WA.out.1
          have := E2.out.2.1
          have := E2.out.2.2
          exact ⟨by omega, by omega, by omega, by omega, by omega, by omega⟩
        cases e0 with
        | true =>
          have HR : AsideQ (r = (x, true)) := ⟨(Option.some.inj (show some (x, true) = some r from hr)).symm⟩
          clear hr
          go_wp2_with (go_at_call 57; refine CE.mono ?_; rintro e1 w4 ⟨P4, rfl, U4⟩
                       obtain ⟨⟨d80, d81, d82⟩, g80, g81, g82⟩ := three_at (UpS.row U4)
                       obtain ⟨⟨d60, d61, d62⟩, g60, g61, g62⟩ := three_at (And.left (UpS.ret U4 PW.out AR.out.1 AR.out.2.1 AR.out.2.2.1 AR.out.2.2.2.1 AR.out.2.2.2.2.1 AR.out.2.2.2.2.2 X6.out E2.out.1 true))
                       have V4 : AsideQ (UpS Tryz.prog w2 P1 wa.heap.size b8 x (.slice x0 m0 l0) (.slice x1 m1 l1) (.slice x2 m2 l2) T w4 P4) := ⟨U4⟩
                       clear U4 CE)
          (try simp only [Exit.inBlock, Exit.then])
          have hy := HY.out
          rw [HR.out] at hy
          subst hy
          exact Tryz.up_post V4.out PW.out AR.out.1 AR.out.2.1 AR.out.2.2.1 AR.out.2.2.2.1 AR.out.2.2.2.2.1 AR.out.2.2.2.2.2 X6.out E2.out.1 rfl rfl rfl
        | false =>
          replace hr : (Option.map (fun x => x.fst) (FI (ls, (fun l => (FK l (x, ())).map (·.1)), ()) ())).bind _ = some r := hr
          obtain ⟨n, hn, hr⟩ := Option.bind_eq_some_iff.1 hr
          have CI : AsideQ (∀ wx Px, UpS Tryz.prog w2 P1 wa.heap.size b8 x (.slice x0 m0 l0) (.slice x1 m1 l1) (.slice x2 m2 l2) T wx Px → Calls Tryz.prog 58 #[v1, .func (.func 59) #[] #[.pointer (some ⟨b8, 0, none⟩)]] wx fun e w' => ∃ P', e = .returned (.int .i64 n) ∧ UpS Tryz.prog w2 P1 wa.heap.size b8 x (.slice x0 m0 l0) (.slice x1 m1 l1) (.slice x2 m2 l2) T w' P') :=
            ⟨fun wx Px hU => idx_call SG.out.2.2.1 SG.out.2.2.2.1 XB.out.1 XB.out.2.2.1 hU hn⟩
          clear hn
          by_cases hn0 : n < 0
          · have HR : AsideQ (r = (x, false)) := ⟨by rw [if_pos hn0] at hr; exact (Option.some.inj hr).symm⟩
            clear hr
            go_wp2_with (first
              | (go_at_call 57; refine CE.mono ?_; rintro e1 w4 ⟨P4, rfl, U4⟩
                 have V4 : AsideQ (UpS Tryz.prog w2 P1 wa.heap.size b8 x (.slice x0 m0 l0) (.slice x1 m1 l1) (.slice x2 m2 l2) T w4 P4) := ⟨U4⟩
                 clear U4 CE)
              | (go_at_call 58; refine (CI.out _ _ V4.out).mono ?_; rintro e2 w5 ⟨P5, rfl, U5⟩
                 obtain ⟨⟨d80, d81, d82⟩, g80, g81, g82⟩ := three_at (UpS.row U5)
                 obtain ⟨⟨d60, d61, d62⟩, g60, g61, g62⟩ := three_at (And.left (UpS.ret U5 PW.out AR.out.1 AR.out.2.1 AR.out.2.2.1 AR.out.2.2.2.1 AR.out.2.2.2.2.1 AR.out.2.2.2.2.2 X6.out E2.out.1 true))
                 have V5 : AsideQ (UpS Tryz.prog w2 P1 wa.heap.size b8 x (.slice x0 m0 l0) (.slice x1 m1 l1) (.slice x2 m2 l2) T w5 P5) := ⟨U5⟩
                 clear U5))
            (try simp only [Exit.inBlock, Exit.then])
            have hy := HY.out
            rw [HR.out] at hy
            subst hy
            exact Tryz.up_post V5.out PW.out AR.out.1 AR.out.2.1 AR.out.2.2.1 AR.out.2.2.2.1 AR.out.2.2.2.2.1 AR.out.2.2.2.2.2 X6.out E2.out.1 rfl rfl rfl
          · rw [if_neg hn0] at hr
            obtain ⟨l, hl, hr1⟩ := Option.bind_eq_some_iff.1 hr
            obtain ⟨⟨st, y0, y1, y2, u0⟩, hs, hr2⟩ := Option.bind_eq_some_iff.1 hr1
            clear hr hr1
            cases u0
            obtain ⟨j, rfl⟩ : ∃ j : Nat, n = (j : Int) := ⟨n.toNat, by omega⟩
            obtain ⟨bl, off, capl, al, kl, cl, rfl, -, hjl, hcl, hPl, hll⟩ := list_at XB.out.2.2.1 hl
            simp only [Int.toNat_natCast] at hcl hPl
            have hj : j < ls.length := Int.ofNat_lt.1 hjl
            have hj0 : (0 : Int) ≤ (j : Int) := Int.natCast_nonneg j
            have hj1 : (j : Int) < (ls.length : Int) := Int.ofNat_lt.2 hj
            have hj2 : (j : Int) ≤ (ls.length : Int) := Int.le_of_lt hj1
            have CS : AsideQ ((∀ wx Px, UpS Tryz.prog w2 P1 wa.heap.size b8 x (.slice x0 m0 l0) (.slice x1 m1 l1) (.slice x2 m2 l2) T wx Px → Calls Tryz.prog 60 #[.agg #[.slice x0 m0 l0, .slice x1 m1 l1, .slice x2 m2 l2], .slice al kl cl] wx fun e w' => e = .returned (.tuple #[.int .i64 st, .agg #[.int .i64 y0, .int .i64 y1, .int .i64 y2]]) ∧
                UpR Tryz.prog w2 P1 wa.heap.size b8 x (.slice x0 m0 l0) (.slice x1 m1 l1) (.slice x2 m2 l2) T bl (off + j) (.slice al kl cl) w' ∧ AsideQ (∃ P', UpS Tryz.prog w2 P1 wa.heap.size b8 x (.slice x0 m0 l0) (.slice x1 m1 l1) (.slice x2 m2 l2) T w' P' ∧ PExt [] wx Px w' P')) ∧ w2.cell? ⟨bl, off + j, none⟩ = some (.slice al kl cl) ∧ P1 bl (off + j)) :=
              ⟨fun wx Px hU => stat_call SG.out.2.2.2.2.1 XB.out.1 hU hPl hcl hll hs, hcl, hPl⟩
            have HR : AsideQ ((if st < 0 then some (x, true) else (Option.map (·.1) (FR (x, (y0, y1, y2, ()), ()) ())).bind fun y => upL (fun d => (FE (d, ()) ()).map (·.1)) (fun d => (FI (ls, (fun l => (FK l (d, ())).map (·.1)), ()) ()).map (·.1)) ls (fun d l => (FS (d, l, ()) ()).map fun s => (s.1.1, s.1.2.1)) (fun d l => (FR (d, l, ()) ()).map (·.1)) k y) = some r) := ⟨hr2⟩
            clear hr2 hs hl hcl hPl hll hjl
            go_wp2_with (first
              | (go_at_call 57; refine CE.mono ?_; rintro e1 w4 ⟨P4, rfl, U4⟩
                 have V4 : AsideQ (UpS Tryz.prog w2 P1 wa.heap.size b8 x (.slice x0 m0 l0) (.slice x1 m1 l1) (.slice x2 m2 l2) T w4 P4) := ⟨U4⟩
                 clear U4 CE)
              | (go_at_call 58; refine (CI.out _ _ V4.out).mono ?_; rintro e2 w5 ⟨P5, rfl, U5⟩
                 have V5 : AsideQ (UpS Tryz.prog w2 P1 wa.heap.size b8 x (.slice x0 m0 l0) (.slice x1 m1 l1) (.slice x2 m2 l2) T w5 P5) := ⟨U5⟩
                 clear U5))
            have hS0 : UpR Tryz.prog w2 P1 wa.heap.size b8 x (.slice x0 m0 l0) (.slice x1 m1 l1) (.slice x2 m2 l2) T bl (off + j) (.slice al kl cl) w5.drew := UpS.toR (UpS.drew V5.out) CS.out.2.2 CS.out.2.1
            have UA : AsideQ (UpS Tryz.prog w2 P1 wa.heap.size b8 x (.slice x0 m0 l0) (.slice x1 m1 l1) (.slice x2 m2 l2) T w5.drew P5) := ⟨UpS.drew V5.out⟩
            have UB : AsideQ (UpS Tryz.prog w2 P1 wa.heap.size b8 x (.slice x0 m0 l0) (.slice x1 m1 l1) (.slice x2 m2 l2) T (w5.alloc (.cells #[.int .i64 0, .int .i64 0, .int .i64 0] 86)).drew P5) := ⟨UpS.drew (UpS.alloc V5.out _)⟩
            have hS1 : UpR Tryz.prog w2 P1 wa.heap.size b8 x (.slice x0 m0 l0) (.slice x1 m1 l1) (.slice x2 m2 l2) T bl (off + j) (.slice al kl cl) (w5.alloc (.cells #[.int .i64 0, .int .i64 0, .int .i64 0] 86)).drew := UpS.toR UB.out CS.out.2.2 CS.out.2.1
            clear c80 c81 c82 f80 f81 f82
            unfold UpR at hS0 hS1
            go_region_held (fun w' => (w'.cell? ⟨b8, 0, none⟩ = some (.slice x0 m0 l0) ∧ w'.cell? ⟨b8, 1, none⟩ = some (.slice x1 m1 l1) ∧ w'.cell? ⟨b8, 2, none⟩ = some (.slice x2 m2 l2)) ∧ w'.cell? ⟨bl, off + j, none⟩ = some (.slice al kl cl) ∧ AsideQ (∃ P', UpS Tryz.prog w2 P1 wa.heap.size b8 x (.slice x0 m0 l0) (.slice x1 m1 l1) (.slice x2 m2 l2) T w' P'))
              (first | exact UpR.ofX hX CS.out.2.2 CS.out.2.1 _ | exact hS3 | exact hS2 | exact hS1 | exact hS0)
              (first
                | (go_at_call 60; with_reducible refine at_alloc ?_; refine (CS.out.1 _ _ UB.out).mono ?_; rintro e3 w6 ⟨rfl, hS2, hXB⟩
                   have hB := up_b V5.out hXB (.int .i64 y0) (.int .i64 y1) (.int .i64 y2)
                   obtain ⟨⟨i0, i1, i2⟩, j0, j1, j2⟩ := three_at (And.left hB)
                   have HB : AsideQ (∃ P', UpS Tryz.prog w2 P1 wa.heap.size b8 x (.slice x0 m0 l0) (.slice x1 m1 l1) (.slice x2 m2 l2) T (((w6.setCell ⟨w5.heap.size, 0, none⟩ (.int .i64 y0)).setCell ⟨w5.heap.size, 1, none⟩ (.int .i64 y1)).setCell ⟨w5.heap.size, 2, none⟩ (.int .i64 y2)) P' ∧ (((w6.setCell ⟨w5.heap.size, 0, none⟩ (.int .i64 y0)).setCell ⟨w5.heap.size, 1, none⟩ (.int .i64 y1)).setCell ⟨w5.heap.size, 2, none⟩ (.int .i64 y2)).heap[w5.heap.size]? = some (.cells #[.int .i64 y0, .int .i64 y1, .int .i64 y2] 86 (0, 0))) := ⟨And.right hB⟩
                   have hS3 : UpR Tryz.prog w2 P1 wa.heap.size b8 x (.slice x0 m0 l0) (.slice x1 m1 l1) (.slice x2 m2 l2) T bl (off + j) (.slice al kl cl) (((w6.setCell ⟨w5.heap.size, 0, none⟩ (.int .i64 y0)).setCell ⟨w5.heap.size, 1, none⟩ (.int .i64 y1)).setCell ⟨w5.heap.size, 2, none⟩ (.int .i64 y2)) := by
                     obtain ⟨Pb, hb1, -⟩ := HB.out
                     exact UpS.toR hb1 CS.out.2.2 CS.out.2.1
                   clear hB
                   unfold UpR at hS2)
                | (go_at_call 60; refine (CS.out.1 _ _ UA.out).mono ?_; rintro e3 w6 ⟨rfl, hS2, hX⟩; unfold UpR at hS2))
            all_goals first
              | (obtain ⟨P7, U7, hrow⟩ := HB.out
                 clear hS2 hXB HB hS3 i0 i1 i2 j0 j1 j2
                 generalize ((w6.setCell ⟨w5.heap.size, 0, none⟩ (.int .i64 y0)).setCell ⟨w5.heap.size, 1, none⟩ (.int .i64 y1)).setCell ⟨w5.heap.size, 2, none⟩ (.int .i64 y2) = w7 at *)
              | (obtain ⟨P7, U7, hrow⟩ := up_a hX (.int .i64 y0) (.int .i64 y1) (.int .i64 y2)
                 clear hS2 hX
                 generalize w6.alloc (.cells #[.int .i64 y0, .int .i64 y1, .int .i64 y2] 86) = w7 at *)
            all_goals
              clear hS0 hS1 UA UB
              rename_i hHeld
              clear hHeld
              have V7 : AsideQ (UpS Tryz.prog w2 P1 wa.heap.size b8 x (.slice x0 m0 l0) (.slice x1 m1 l1) (.slice x2 m2 l2) T w7 P7) := ⟨U7⟩
              obtain ⟨⟨c80, c81, c82⟩, f80, f81, f82⟩ := three_at U7.row
              obtain ⟨⟨q0, q1, q2⟩, -⟩ := three_at hrow
              by_cases hst : st < 0
              · have HR2 : AsideQ (r = (x, true)) := ⟨by have h := HR.out; rw [if_pos hst] at h; exact (Option.some.inj h).symm⟩
                obtain ⟨⟨d60, d61, d62⟩, g60, g61, g62⟩ := three_at (And.left (UpS.ret U7 PW.out AR.out.1 AR.out.2.1 AR.out.2.2.1 AR.out.2.2.2.1 AR.out.2.2.2.2.1 AR.out.2.2.2.2.2 X6.out E2.out.1 true))
                clear U7 hrow HR
                go_wp2
                (try simp only [Exit.inBlock, Exit.then])
                have hy := HY.out
                rw [HR2.out] at hy
                subst hy
                exact Tryz.up_post V7.out PW.out AR.out.1 AR.out.2.1 AR.out.2.2.1 AR.out.2.2.2.1 AR.out.2.2.2.2.1 AR.out.2.2.2.2.2 X6.out E2.out.1 rfl rfl rfl
              · have hq := HR.out
                rw [if_neg hst] at hq
                obtain ⟨z, hz, hq⟩ := Option.bind_eq_some_iff.1 hq
                have CR := rest_call SG.out.2.2.2.2.2 XB.out.1 U7 hz
                have HZ : AsideQ (upL (fun d => (FE (d, ()) ()).map (·.1)) (fun d => (FI (ls, (fun l => (FK l (d, ())).map (·.1)), ()) ()).map (·.1)) ls (fun d l => (FS (d, l, ()) ()).map fun s => (s.1.1, s.1.2.1)) (fun d l => (FR (d, l, ()) ()).map (·.1)) k z = some r) := ⟨hq⟩
                clear U7 hrow HR hq hz
                go_wp2_with (go_at_call 61; refine CR.mono ?_; rintro e4 w8 ⟨P8, T8, z0, o0, t0, z1, o1, t1, z2, o2, t2, rfl, U8, hr8, hn8, hb8⟩
                             obtain ⟨⟨d80, d81, d82⟩, g80, g81, g82⟩ := three_at (UpS.row U8)
                             have V8 : AsideQ (UpS Tryz.prog w2 P1 wa.heap.size b8 x (.slice x0 m0 l0) (.slice x1 m1 l1) (.slice x2 m2 l2) T w8 P8 ∧ RepV Tryz.prog domT w8 P8 domM z (.agg #[.slice z0 o0 t0, .slice z1 o1 t1, .slice z2 o2 t2]) T8 ∧ T8.Nodup ∧ ∀ b ∈ T8, w7.heap.size ≤ b ∧ b < w8.heap.size) := ⟨U8, hr8, hn8, hb8⟩
                             clear U8 hr8 hn8 hb8 CR)
                go_roundg k
                case measure => omega
                case rel =>
                  refine ⟨z, T8, P8, z0, z1, z2, o0, t0, o1, t1, o2, t2, ⟨UpS.set V8.out.1 V8.out.2.1 V8.out.2.2.1 (fun b hb => ?_) (fun hb => ?_)⟩, ⟨by rw [HZ.out]; exact congrArg some HY.out⟩⟩
                  · have h1 := V8.out.2.2.2 b hb
                    have h2 := V7.out.ext.size
                    have h3 := E2.out.2.1
                    have h4 := E2.out.2.2
                    exact ⟨by omega, h1.2⟩
                  · have h1 := (V8.out.2.2.2 _ hb).1
                    have h2 := V7.out.lt
                    omega
end Go.Proofs
