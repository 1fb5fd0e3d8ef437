/-
  The walk of impl.ApplyDelay over the claims of the functions that it calls: the copy of the project is turned in place while a part of it is gone through. No condition.
-/
import Derived.Test.YtjgmjljdhgfdhaaN41
import Derived.Test.YtjgmjljdhgfdhaaProg
import Derived.KernelRfl
import Derived.WalkKit
import Derived.WalkSpells
import Derived.WalkLawsBesides
import Derived.Deep.QuietTactic
import Derived.Deep.LoopGhost
import Derived.Deep.RegionHeld
import Derived.BigQuiet
import Derived.ProofKit
import Derived.OpenShut
import Derived.Lib.Hide
import Derived.Laws.ResultCell
namespace Go.Proofs
set_option linter.unusedVariables false
set_option linter.unusedSimpArgs false
open Go.RowKit Go.Abs
abbrev schT : Ty := .st [.sl 3 (.int .i64), .sl 3 (.int .i64)]
abbrev Sch : Type := List Int × List Int × Unit
abbrev schM : Md := .s (.u .p) (.s (.u .p) .p)
def bestL (g : Sch → Option Int) : List Sch → Sch → Bool → Option (Sch × Bool)
  | [], b, f => some (b, f)
  | s :: l, b, false => bestL g l s true
  | s :: l, b, true => (g s).bind fun n => (g b).bind fun k => if n < k then bestL g l s true else bestL g l b true
def bestF {ts : List Ty} (FA : Ty.dens [.st ts, .int .i64] → Unit → Option (List Sch × Unit)) (FM : Ty.dens [.st ts, schT] → Unit → Option (Int × Unit)) : Ty.dens [.st ts, .int .i64] → Unit → Option ((Sch × Bool × Unit) × Unit) := fun x _ =>
  (FA x ()).bind fun ys => (bestL (fun s => (FM (x.1, s, ()) ()).map (·.1)) ys.1 ([], [], ()) false).map fun r => ((r.1, r.2, ()), ())
/-- what the variable holds: nothing yet, or an element of the list -/
def BestV (ss : List Sch) (cells : List Value) (b : Sch) (f : Bool) (v0 v1 : Value) : Prop :=
  (f = false ∧ b = ([], [], ()) ∧ v0 = .slice none 0 0 ∧ v1 = .slice none 0 0) ∨ (f = true ∧ ∃ i, ss[i]? = some b ∧ cells[i * 2]? = some v0 ∧ cells[i * 2 + 1]? = some v1)
theorem two_cells {cells : List Value} {i : Nat} {v0 v1 : Value} (h0 : cells[i * 2]? = some v0) (h1 : cells[i * 2 + 1]? = some v1) : (cells.drop (i * 2)).take 2 = [v0, v1] := by
  apply List.ext_getElem?
  intro j
  match j with
  | 0 => simp [h0]
  | 1 => simp [h1]
  | j + 2 => simp [List.getElem?_take]; omega
theorem bestV_rep {M : Program} {w : World} {P : Prot} {ss : List Sch} {cells : List Value} {Tc : List Nat} {b : Sch} {f : Bool} {v0 v1 : Value} (h : BestV ss cells b f v0 v1) (hL : RepL (RepC M schT w P schM) ss cells Tc) :
    ∃ T, RepV M schT w P schM b (.agg #[v0, v1]) T ∧ List.Sublist T Tc := by
  rcases h with ⟨-, rfl, rfl, rfl⟩ | ⟨-, i, h1, h2, h3⟩
  · refine ⟨[], ?_, List.nil_sublist _⟩
    simp only [RepV, RepCs, RepC, RepSl, Md.hd, Md.tl]
    exact ⟨[.slice none 0 0, .slice none 0 0], rfl, [.slice none 0 0], [.slice none 0 0], [], [], rfl, rfl, ⟨_, rfl, .inl ⟨rfl, rfl, rfl⟩⟩, [.slice none 0 0], [], [], [], rfl, rfl, ⟨_, rfl, .inl ⟨rfl, rfl, rfl⟩⟩, rfl, rfl⟩
  · obtain ⟨T, hr, hs, _⟩ := repL_at (size := 2) (fun x cs T r => (RepC.length schT r).1) hL h1
    rw [two_cells h2 h3] at hr
    exact ⟨T, RepV_of_RepC schT hr, hs⟩
theorem elem_cells {M : Program} {w : World} {P : Prot} {ss : List Sch} {cells : List Value} {Tc : List Nat} (hL : RepL (RepC M schT w P schM) ss cells Tc) {j : Nat} {s : Sch} (hj : ss[j]? = some s) :
    ∃ y0 m0 l0 y1 m1 l1, cells[j * 2]? = some (.slice y0 m0 l0) ∧ cells[j * 2 + 1]? = some (.slice y1 m1 l1) := by
  obtain ⟨T, hr, -, hlen⟩ := repL_at (size := 2) (fun x cs T r => (RepC.length schT r).1) hL hj
  have h0 : cells[j * 2]? = ((cells.drop (j * 2)).take 2)[0]? := by simp [List.getElem?_take]
  have h1 : cells[j * 2 + 1]? = ((cells.drop (j * 2)).take 2)[1]? := by simp [List.getElem?_take]
  rw [h0, h1]
  generalize (cells.drop (j * 2)).take 2 = cs at hr
  simp only [RepC, RepCs, Md.hd, Md.tl] at hr
  obtain ⟨c1, c2, T1, T2, rfl, rfl, ⟨v, rfl, hv⟩, c3, c4, T3, T4, rfl, rfl, ⟨u, rfl, hu⟩, rfl, rfl⟩ := hr
  have sl : ∀ {x : List Int} {v : Value} {T : List Nat}, RepSl (RepC M (.int .i64) w P) 3 1 w P (.u .p) x v T → ∃ a n c, v = .slice a n c := fun h => by
    rcases h with ⟨-, -, rfl⟩ | ⟨b, cap, cells, Tc, rfl, -⟩
    · exact ⟨_, _, _, rfl⟩
    · exact ⟨_, _, _, rfl⟩
  obtain ⟨y0, m0, l0, rfl⟩ := sl hv
  obtain ⟨y1, m1, l1, rfl⟩ := sl hu
  exact ⟨y0, m0, l0, y1, m1, l1, rfl, rfl⟩
theorem best_end {M : Program} {w w1 w2 wr : World} {P P1 Pr : Prot} {Tr Tc : List Nat} {ss : List Sch} {cells : List Value} {b : Sch} {f : Bool} {v0 v1 : Value} (ht : There w P) (hp2 : PExt [] w P w2 P) (hs : w2.heap.size = w.heap.size + 1 + 1 + 1) (hp1 : PExt [] w2 P w1 P1)
    (hL : RepL (RepC M schT w1 P1 schM) ss cells Tc) (hsub : List.Sublist Tc Tr) (hnd : Tr.Nodup) (hTr : ∀ b ∈ Tr, w2.heap.size ≤ b ∧ b < w1.heap.size) (hp : PExt [w.heap.size + 1 + 1] w1 P1 wr Pr) (hB : BestV ss cells b f v0 v1) :
    ∃ P' T, PExt [] w P ((wr.setCell ⟨w.heap.size + 1, 0, none⟩ v0).setCell ⟨w.heap.size + 1, 1, none⟩ v1) P' ∧
      RepV M (.tup [schT, .bool]) ((wr.setCell ⟨w.heap.size + 1, 0, none⟩ v0).setCell ⟨w.heap.size + 1, 1, none⟩ v1) P' (Ty.all (.tup [schT, .bool])) (b, f, ()) (.tuple #[.agg #[v0, v1], .bool f]) T ∧
      T.Nodup ∧ ∀ b ∈ T, w.heap.size ≤ b ∧ b < ((wr.setCell ⟨w.heap.size + 1, 0, none⟩ v0).setCell ⟨w.heap.size + 1, 1, none⟩ v1).heap.size := by
  have hn4 : ∀ o, ¬ Pr (w.heap.size + 1) o := fun o ho => by
    rcases hp.old _ _ ho with h | h | h
    · rcases hp1.old _ _ h with h | h | h
      · obtain ⟨v, hv⟩ := ht _ _ h
        have := World.block_lt_of_cell? w ⟨_, o, none⟩ hv
        simp at this
        omega
      · omega
      · simp at h
    · have := hp1.size; omega
    · simp at h
  have q1 := pext_set (w := wr) (P := Pr) hp.there (o := 0) (v := v0) hn4
  have q2 := pext_set (w := wr.setCell ⟨w.heap.size + 1, 0, none⟩ v0) (P := Pr) q1.there (o := 1) (v := v1) hn4
  have q := q1.trans q2 (fun b hb => .inr hb)
  generalize ((wr.setCell ⟨w.heap.size + 1, 0, none⟩ v0).setCell ⟨w.heap.size + 1, 1, none⟩ v1) = w3 at q
  have q3 : PExt [w.heap.size + 1 + 1, w.heap.size + 1] w1 P1 w3 Pr := (hp.wide (F' := [w.heap.size + 1 + 1, w.heap.size + 1]) (by simp) (fun k hk o => by
    simp at hk
    rcases hk with rfl | rfl
    · exact hp.free _ (by simp) o
    · exact fun h => hn4 o (hp.prot _ _ h))).trans q (fun b hb => .inr (by simp at hb; simp [hb]))
  have hk := q3.keeps Tr fun b hb => ⟨(hTr b hb).2, by have := (hTr b hb).1; simp; omega⟩
  have hL3 : RepL (RepC M schT w3 Pr schM) ss cells Tc := hL.mono fun x cs T' hs r => RepC.mono schT r (hk.sub fun b hb => hsub.subset (hs b hb))
  obtain ⟨T, hr, hT⟩ := bestV_rep hB hL3
  have hT' := hT.trans hsub
  refine ⟨Pr, T, (hp2.trans0 hp1).trans q3 fun b hb => .inl (by simp at hb; omega), ?_, hT'.nodup hnd, fun b hb => ?_⟩
  · show RepV M (.tup [schT, .bool]) w3 Pr (.s schM (.s .p .p)) (b, f, ()) _ T
    simp only [RepV, RepVs, Md.hd, Md.tl]
    refine ⟨[.agg #[v0, v1], .bool f], rfl, .agg #[v0, v1], [.bool f], T, [], rfl, by simp, ?_, .bool f, [], [], [], rfl, rfl, ⟨rfl, rfl⟩, rfl, rfl⟩
    have := hr
    simpa only [RepV] using this
  · have h1 := hTr b (hT'.subset hb)
    have h2 := q3.size
    exact ⟨by omega, by omega⟩
theorem two_at {w : World} {b : Nat} {v0 v1 : Value} {e : TypeId} (h : w.heap[b]? = some (.cells #[v0, v1] e (0, 0))) : w.cell? ⟨b, 0, none⟩ = some v0 ∧ w.cell? ⟨b, 1, none⟩ = some v1 ∧ w.frozen? ⟨b, 0, none⟩ = false ∧ w.frozen? ⟨b, 1, none⟩ = false :=
  ⟨by rw [cell_of h]; rfl, by rw [cell_of h]; rfl, frozen_of h 0, frozen_of h 1⟩
theorem five_at {w : World} {b : Nat} {v0 v1 v2 v3 v4 : Value} {e : TypeId} (h : w.heap[b]? = some (.cells #[v0, v1, v2, v3, v4] e (0, 0))) :
    w.cell? ⟨b, 0, none⟩ = some v0 ∧ w.cell? ⟨b, 1, none⟩ = some v1 ∧ w.cell? ⟨b, 2, none⟩ = some v2 ∧ w.cell? ⟨b, 3, none⟩ = some v3 ∧ w.cell? ⟨b, 4, none⟩ = some v4 :=
  ⟨by rw [cell_of h]; rfl, by rw [cell_of h]; rfl, by rw [cell_of h]; rfl, by rw [cell_of h]; rfl, by rw [cell_of h]; rfl⟩
theorem pext_drew {w : World} {P : Prot} (ht : There w P) : PExt [] w P w.drew P := ⟨rfl, rfl, rfl, Nat.le_refl _, fun _ _ _ => rfl, by simp, fun _ _ h => h, fun _ _ h => .inl h, ht⟩
theorem PExt.drewR {F : List Nat} {w w' : World} {P P' : Prot} (h : PExt F w P w' P') : PExt F w P w'.drew P' := ⟨h.os, h.tape, h.output, h.size, h.block, h.free, h.prot, h.old, h.there⟩
/-- the variable written anew -/
theorem set_var {b6 : Nat} {w1 wx : World} {P1 Px : Prot} {u0 u1 v0 v1 : Value} (h : PExt [b6] w1 P1 wx Px) (hn : ∀ o, ¬ Px b6 o) (hv : wx.heap[b6]? = some (.cells #[u0, u1] 30 (0, 0))) :
    PExt [b6] w1 P1 ((wx.setCell ⟨b6, 0, none⟩ v0).setCell ⟨b6, 1, none⟩ v1) Px ∧ ((wx.setCell ⟨b6, 0, none⟩ v0).setCell ⟨b6, 1, none⟩ v1).heap[b6]? = some (.cells #[v0, v1] 30 (0, 0)) := by
  have q1 := pext_set (w := wx) (P := Px) h.there (o := 0) (v := v0) hn
  have q2 := pext_set (w := wx.setCell ⟨b6, 0, none⟩ v0) (P := Px) q1.there (o := 1) (v := v1) hn
  refine ⟨(h.trans q1 fun b hb => .inr hb).trans q2 fun b hb => .inr hb, ?_⟩
  have := set_heap (set_heap hv 0 v0) 1 v1
  simpa using this
theorem free_later {w w' : World} {P P' : Prot} {b : Nat} (hp : PExt [] w P w' P') (hlt : b < w.heap.size) (hn : ∀ o, ¬ P b o) : ∀ o, ¬ P' b o := fun o ho => by
  rcases hp.old _ _ ho with h | h | h
  · exact hn o h
  · omega
  · simp at h
/-- a call of Makespan -/
theorem span_call {B : Base} {M : Program} {ts : List Ty} {FM : Ty.dens [.st ts, schT] → Unit → Option (Int × Unit)} (hM : SigB B M 36 ⟨[.st ts, schT], [], none, .p, .int .i64, .p, FM⟩) {w w1 wx : World} {P P1 Px : Prot} {b6 : Nat} {Tr Tc : List Nat} {ss : List Sch} {cells : List Value} {b : Sch} {f : Bool}
    {v0 v1 pv : Value} {p : (Ty.st ts).den} {n : Int} (hb : BaseOk M B w P) (h0 : RepV M (.st ts) w P .p p pv []) (hl : Later w P w1 P1) (hL : RepL (RepC M schT w1 P1 schM) ss cells Tc) (hsub : List.Sublist Tc Tr) (hTr : ∀ b ∈ Tr, b6 < b ∧ b < w1.heap.size) (hTn : ∀ b ∈ Tr, ∀ o, ¬ P1 b o) (hp : PExt [b6] w1 P1 wx Px) (hB : BestV ss cells b f v0 v1)
    (hF : (FM (p, b, ()) ()).map (·.1) = some n) : Calls M 36 #[pv, .agg #[v0, v1]] wx fun e w' => ∃ P', e = .returned (.int .i64 n) ∧ PExt [] wx Px w' P' := by
  obtain ⟨⟨n', u⟩, hF2, rfl⟩ := Option.map_eq_some_iff.1 hF
  have hk := hp.keeps Tr fun b hb => ⟨(hTr b hb).2, by have := (hTr b hb).1; simp; omega⟩
  have hL3 : RepL (RepC M schT wx Px schM) ss cells Tc := hL.mono fun x cs T' hs r => RepC.mono schT r (hk.sub fun b hb => hsub.subset (hs b hb))
  obtain ⟨T, hr, hT⟩ := bestV_rep hB hL3
  have hT' := hT.trans hsub
  have hl2 := hl.trans hp.later
  refine (call_lent (D := T) (ys := ()) (vs := [pv, .agg #[v0, v1]]) (caps := []) hM (hb.later hl2) hp.there (fun b hb => ⟨Nat.lt_of_lt_of_le (hTr b (hT'.subset hb)).2 hp.size, fun o ho => hTn b (hT'.subset hb) o (hk.old b (hT'.subset hb) o ho)⟩) rfl ?_ rfl hF2).mono ?_
  · simp only [RepVs, Md.hd, Md.tl]
    exact ⟨_, _, [], [], rfl, rfl, keep_p h0 (hl2.trans (Later.add _ _ _)), _, _, [], [], rfl, rfl, lent_rep hr rfl fun b hb => hb, rfl, rfl⟩
  · rintro e w' ⟨v, P', Tr', rfl, hp', hr', -⟩
    simp only [RepV] at hr'
    exact ⟨P', by rw [hr'.1], hp'⟩
/-- the three variables' blocks -/
structure Vars (w : World) (b2 b6 b9 : Nat) (ps : Array Value) (x y : Array Value) : Prop where
  v2 : w.heap[b2]? = some (.cells ps 37 (0, 0))
  v6 : w.heap[b6]? = some (.cells x 30 (0, 0))
  v9 : w.heap[b9]? = some (.cells y 30 (0, 0))
theorem Vars.later {w w' : World} {P P' : Prot} {b2 b6 b9 : Nat} {ps x y : Array Value} (h : Vars w b2 b6 b9 ps x y) (hp : PExt [] w P w' P') : Vars w' b2 b6 b9 ps x y :=
  ⟨by rw [hp.block _ (Array.getElem?_eq_some_iff.1 h.v2).1 (by simp)]; exact h.v2, by rw [hp.block _ (Array.getElem?_eq_some_iff.1 h.v6).1 (by simp)]; exact h.v6, by rw [hp.block _ (Array.getElem?_eq_some_iff.1 h.v9).1 (by simp)]; exact h.v9⟩
/-- what the loads of a round read -/
def RdS (w1 : World) (P1 : Prot) (b2 b6 b9 : Nat) (p0 p1 p2 p3 p4 u0 u1 v0 v1 : Value) (w' : World) : Prop :=
  (w'.cell? ⟨b2, 0, none⟩ = some p0 ∧ w'.cell? ⟨b2, 1, none⟩ = some p1 ∧ w'.cell? ⟨b2, 2, none⟩ = some p2 ∧ w'.cell? ⟨b2, 3, none⟩ = some p3 ∧ w'.cell? ⟨b2, 4, none⟩ = some p4) ∧
    (w'.cell? ⟨b6, 0, none⟩ = some u0 ∧ w'.cell? ⟨b6, 1, none⟩ = some u1) ∧ (w'.cell? ⟨b9, 0, none⟩ = some v0 ∧ w'.cell? ⟨b9, 1, none⟩ = some v1) ∧
    AsideQ (∃ P', PExt [b6] w1 P1 w' P' ∧ (∀ o, ¬ P' b6 o) ∧ Vars w' b2 b6 b9 #[p0, p1, p2, p3, p4] #[u0, u1] #[v0, v1])
theorem RdS.mk' {w1 : World} {P1 : Prot} {b2 b6 b9 : Nat} {p0 p1 p2 p3 p4 u0 u1 v0 v1 : Value} {w' : World} {P' : Prot} (h1 : PExt [b6] w1 P1 w' P') (h2 : ∀ o, ¬ P' b6 o) (hv : Vars w' b2 b6 b9 #[p0, p1, p2, p3, p4] #[u0, u1] #[v0, v1]) :
    RdS w1 P1 b2 b6 b9 p0 p1 p2 p3 p4 u0 u1 v0 v1 w' :=
  ⟨five_at hv.v2, ⟨(two_at hv.v6).1, (two_at hv.v6).2.1⟩, ⟨(two_at hv.v9).1, (two_at hv.v9).2.1⟩, ⟨P', h1, h2, hv⟩⟩
theorem RdS.drew {w1 : World} {P1 : Prot} {b2 b6 b9 : Nat} {p0 p1 p2 p3 p4 u0 u1 v0 v1 : Value} {w' : World} (h : RdS w1 P1 b2 b6 b9 p0 p1 p2 p3 p4 u0 u1 v0 v1 w') : RdS w1 P1 b2 b6 b9 p0 p1 p2 p3 p4 u0 u1 v0 v1 w'.drew := by
  obtain ⟨P', h1, h2, hv⟩ := h.2.2.2.out
  exact RdS.mk' (PExt.drewR h1) h2 ⟨hv.v2, hv.v6, hv.v9⟩
theorem span_held {B : Base} {M : Program} {ts : List Ty} {FM : Ty.dens [.st ts, schT] → Unit → Option (Int × Unit)} (hM : SigB B M 36 ⟨[.st ts, schT], [], none, .p, .int .i64, .p, FM⟩) {w w1 wx : World} {P P1 : Prot} {b2 b6 b9 : Nat} {Tr Tc : List Nat} {ss : List Sch} {cells : List Value} {b : Sch} {f : Bool}
    {v0 v1 pv p0 p1 p2 p3 p4 x0 x1 y0 y1 : Value} {p : (Ty.st ts).den} {n : Int} (hb : BaseOk M B w P) (h0 : RepV M (.st ts) w P .p p pv []) (hl : Later w P w1 P1) (hL : RepL (RepC M schT w1 P1 schM) ss cells Tc) (hsub : List.Sublist Tc Tr) (hTr : ∀ b ∈ Tr, b6 < b ∧ b < w1.heap.size) (hTn : ∀ b ∈ Tr, ∀ o, ¬ P1 b o) (hB : BestV ss cells b f v0 v1)
    (hF : (FM (p, b, ()) ()).map (·.1) = some n) (hS : RdS w1 P1 b2 b6 b9 p0 p1 p2 p3 p4 x0 x1 y0 y1 wx) : Calls M 36 #[pv, .agg #[v0, v1]] wx fun e w' => e = .returned (.int .i64 n) ∧ RdS w1 P1 b2 b6 b9 p0 p1 p2 p3 p4 x0 x1 y0 y1 w' := by
  obtain ⟨Px, hp, hn, hv⟩ := hS.2.2.2.out
  refine (span_call hM hb h0 hl hL hsub hTr hTn hp hB hF).mono ?_
  rintro e w' ⟨P', rfl, hp'⟩
  exact ⟨rfl, RdS.mk' (hp.trans hp' (by simp)) (free_later hp' (Array.getElem?_eq_some_iff.1 hv.v6).1 hn) (hv.later hp')⟩
abbrev modT : Ty := .st [.int .i64, .sl 3 (.int .i64), .sl 3 (.int .i64)]
abbrev actT : Ty := .st [.str, .int .i64, .sl 54 modT]
abbrev stpT : Ty := .st [.int .i64, .int .i64]
abbrev resT : Ty := .st [.sl 85 stpT, .sl 25 (.sl 3 (.int .i64))]
abbrev prjTs : List Ty := [.int .i64, .sl 52 actT, .sl 92 (.st [.int .i64, .int .i64, .bool, .int .i64]), .sl 60 resT, .sl 3 (.int .i64)]
abbrev prjT : Ty := .st prjTs
abbrev dlyT : Ty := .st [.int .i64, .int .i64, .int .i64, .int .i64]
abbrev Prj : Type := prjT.den
abbrev Dly : Type := Int × Int × Int × Int × Unit
abbrev Stp : Type := Int × Int × Unit
abbrev durQ : List PStep := [.fld 1, .idx, .fld 2, .idx, .fld 0]
abbrev stpQ : List PStep := [.fld 3, .idx, .fld 0]
abbrev zPrj : Prj := ((0 : Int), [], [], [], [], ())
def acts (x : Prj) : List actT.den := x.2.1
def ress (x : Prj) : List resT.den := x.2.2.2.1
def modsOf (a : actT.den) : List modT.den := a.2.2.1
def getDur (x : Prj) (a i : Int) : Option Int := (getI (acts x) a).bind fun z => (getI (modsOf z) i).bind fun m => some m.1
def setDur (x : Prj) (a i n : Int) : Prj := (x.1, setI (acts x) a (fun z => (z.1, z.2.1, setI (modsOf z) i (fun m => (n, m.2)), z.2.2.2)), x.2.2)
def getStp (x : Prj) (a : Int) : Option (List Stp) := (getI (ress x) a).bind fun z => some z.1
def setStp (x : Prj) (a : Int) (l : List Stp) : Prj := (x.1, x.2.1, x.2.2.1, setI (ress x) a (fun z => (l, z.2)), x.2.2.2.2)
theorem dur_sub : prjT.sub durQ = some ⟨.int .i64, fun x is => getDur x (is.headD 0) (is.tail.headD 0), fun x is y => setDur x (is.headD 0) (is.tail.headD 0) y⟩ := rfl
theorem stp_sub : prjT.sub stpQ = some ⟨.sl 85 stpT, fun x is => getStp x (is.headD 0), fun x is y => setStp x (is.headD 0) y⟩ := rfl
def longL (a N : Int) : Nat → Nat → Prj → Option Prj
  | 0, _, x => some x
  | k + 1, i, x => (getDur x a (i : Int)).bind fun m => longL a N k (i + 1) (setDur x a (i : Int) (if 12 < IntKind.i64.wrap (m + N) then 12 else IntKind.i64.wrap (m + N)))
def apF (FD : Ty.dens [prjT, dlyT] → Unit → Option (Bool × Unit)) (FC : Ty.dens [prjT] → Unit → Option (Prj × Unit)) (FR : Ty.dens [.sl 85 stpT, .int .i64, .int .i64] → Unit → Option (List Stp × Unit)) (FP : Ty.dens [prjT] → Unit → Option (Bool × Unit)) : Ty.dens [prjT, dlyT] → Unit → Option ((Prj × Bool × Unit) × Unit) := fun x _ =>
  (FD x ()).bind fun ok => if ok.1 = true then
    (FC (x.1, ()) ()).bind fun c =>
      (if eqZ x.2.1.1 2 = true then (getI (acts c.1) x.2.1.2.1).bind fun z => longL x.2.1.2.1 x.2.1.2.2.1 (modsOf z).length 0 c.1
        else if eqZ x.2.1.1 3 = true then (getStp c.1 x.2.1.2.1).bind fun l => (FR (l, x.2.1.2.2.2.1, x.2.1.2.2.1, ()) ()).map fun (r : List Stp × Unit) => setStp c.1 x.2.1.2.1 r.1
        else some c.1).bind fun o => (FP (o, ()) ()).bind fun k => if k.1 = true then some ((o, true, ()), ()) else some ((zPrj, false, ()), ())
  else some ((zPrj, false, ()), ())
/-- what holds while the project of one's own is turned -/
structure ApS (M : Program) (wA : World) (PA : Prot) (b6 : Nat) (x : Prj) (q0 q1 q2 q3 q4 : Value) (T : List Nat) (w : World) (P : Prot) : Prop where
  ext : PExt [] wA PA w P
  free : ∀ o, ¬ P b6 o
  b6A : wA.heap.size ≤ b6
  lt : b6 < w.heap.size
  row : w.heap[b6]? = some (.cells #[q0, q1, q2, q3, q4] 35 (0, 0))
  rep : RepV M prjT w P prjT.all x (.agg #[q0, q1, q2, q3, q4]) T
  nd : T.Nodup
  bd : ∀ b ∈ T, wA.heap.size ≤ b ∧ b < w.heap.size
  out : b6 ∉ T
section
variable {M : Program} {wA w w' : World} {PA P P' : Prot} {b6 : Nat} {x : Prj} {q0 q1 q2 q3 q4 : Value} {T : List Nat}
theorem ApS.later (h : ApS M wA PA b6 x q0 q1 q2 q3 q4 T w P) (hp : PExt [] w P w' P') : ApS M wA PA b6 x q0 q1 q2 q3 q4 T w' P' :=
  ⟨h.ext.trans0 hp, free_later hp h.lt h.free, h.b6A, Nat.lt_of_lt_of_le h.lt hp.size, by rw [hp.block _ h.lt (by simp)]; exact h.row, keep_own h.rep hp fun b hb => (h.bd b hb).2, h.nd, fun b hb => ⟨(h.bd b hb).1, Nat.lt_of_lt_of_le (h.bd b hb).2 hp.size⟩, h.out⟩
theorem ApS.repC (h : ApS M wA PA b6 x q0 q1 q2 q3 q4 T w P) : RepC M prjT w P prjT.all x [q0, q1, q2, q3, q4] T := (RepC_of_RepV prjT rfl h.rep).1
/-- the place of a duration, and what comes of writing there -/
theorem ApS.dur (h : ApS M wA PA b6 x q0 q1 q2 q3 q4 T w P) {a i : Int} {n : Int} (hg : getDur x a i = some n) :
    ∃ ba na ca bm nm cm, q1 = .slice (some ⟨ba, 0, none⟩) na ca ∧ 0 ≤ a ∧ a < na ∧ w.cell? ⟨ba, a.toNat * 3 + 2, none⟩ = some (.slice (some ⟨bm, 0, none⟩) nm cm) ∧ 0 ≤ i ∧ i < nm ∧ w.cell? ⟨bm, i.toNat * 3, none⟩ = some (.int .i64 n) ∧ w.frozen? ⟨bm, i.toNat * 3, none⟩ = false ∧ bm ∈ T ∧ ba ∈ T ∧
      ∀ m : Int, ApS M wA PA b6 (setDur x a i m) q0 q1 q2 q3 q4 T (w.setCell ⟨bm, i.toNat * 3, none⟩ (.int .i64 m)) P := by
  obtain ⟨cs', T1, T', T2, at_, F⟩ := Ty.sub_focus durQ dur_sub (is := [a, i]) (y := n) h.repC (by rfl) hg rfl h.nd
  obtain ⟨hr, hL⟩ := F.loc (.vals [q0, q1, q2, q3, q4]) T rfl fun b hb => hb
  have hrep := F.rep
  simp only [RepC] at hrep
  obtain ⟨rfl, rfl⟩ := hrep
  simp only [res, fld, Loc.sub, offs, Ty.size, Ty.sizes, Loc.head] at hr
  split at hr
  · rename_i ba na ca hq1
    have hq1 : q1 = .slice (some ⟨ba, 0, none⟩) na ca := Option.some.inj hq1
    split at hr
    · rename_i hA
      split at hr
      · rename_i bm nm cm hcm
        split at hr
        · rename_i hB
          have hat : at_ (.vals [q0, q1, q2, q3, q4]) = .mem bm (i.toNat * 3) := by
            have := Option.some.inj hr
            simp only [Prod.mk.injEq, true_and] at this
            exact this.symm
          rw [hat] at hL
          have hc : w.cell? ⟨bm, i.toNat * 3, none⟩ = some (.int .i64 n) := hL 0 _ rfl
          obtain ⟨e, k, hrow⟩ := RepC.rows prjT h.repC bm hB.1
          refine ⟨ba, na, ca, bm, nm, cm, hq1, hA.2.1, hA.2.2, hcm, hB.2.1, hB.2.2, hc, frozen_row hrow _, hB.1, hA.1, fun m => ?_⟩
          have hfree : ∀ o, ¬ P bm o := RepV.free _ h.rep bm hB.1
          have hbA := (h.bd bm hB.1).1
          have hq := pext_set (w := w) (P := P) h.ext.there (b := bm) (o := i.toNat * 3) (v := .int .i64 m) hfree
          have hne : bm ≠ b6 := fun e => h.out (e ▸ hB.1)
          have hcell : (w.setCell ⟨bm, i.toNat * 3, none⟩ (.int .i64 m)).cell? ⟨bm, i.toNat * 3, none⟩ = some (.int .i64 m) := World.cell?_setCell_same _ _ _ hc
          obtain ⟨cs2, hv, hrep2⟩ := F.plug (.vals [q0, q1, q2, q3, q4]) (w.setCell ⟨bm, i.toNat * 3, none⟩ (.int .i64 m)) P (prjT.all.at durQ) prjT.all m [.int .i64 m] [] rfl (fun _ _ => trivial) hq.later (by simp [RepC])
            (by
              rw [hat]
              intro j v hj
              cases j with
              | zero => cases hj; simpa using hcell
              | succ j => simp at hj)
            (fun c _ e n hr => row_setCell _ _ _ _ _ hr)
            (fun c hc o hn => by
              rw [hat] at hn
              refine World.cell?_setCell_other _ _ _ _ (fun e => hn ?_)
              cases e
              exact ⟨rfl, Nat.le_refl _, by simp⟩)
            (fun c o hh => hh.elim) (fun _ _ _ h => h) (.inl ⟨rfl, rfl⟩)
          have hv : [q0, q1, q2, q3, q4] = cs2 := hv
          subst hv
          have hT : T1 ++ ([] ++ T2) = T := F.split.symm
          rw [hT] at hrep2
          refine ⟨h.ext.trans hq fun b hb => .inl (by simp at hb; omega), h.free, h.b6A, Nat.lt_of_lt_of_le h.lt hq.size, ?_, ?_, h.nd, fun b hb => ⟨(h.bd b hb).1, Nat.lt_of_lt_of_le (h.bd b hb).2 hq.size⟩, h.out⟩
          · rw [set_other (fun e => hne e.symm)]
            exact h.row
          · exact RepV_of_RepC prjT hrep2
        · cases hr
      · cases hr
    · cases hr
  · cases hr
abbrev modQ : List PStep := [.fld 1, .idx, .fld 2, .idx]
def getMod (x : Prj) (a i : Int) : Option modT.den := (getI (acts x) a).bind fun z => (getI (modsOf z) i).bind fun m => some m
def setMod (x : Prj) (a i : Int) (m : modT.den) : Prj := (x.1, setI (acts x) a (fun z => (z.1, z.2.1, setI (modsOf z) i (fun _ => m), z.2.2.2)), x.2.2)
theorem mod_sub : prjT.sub modQ = some ⟨modT, fun x is => getMod x (is.headD 0) (is.tail.headD 0), fun x is y => setMod x (is.headD 0) (is.tail.headD 0) y⟩ := rfl
/-- the cells of a mode -/
theorem ApS.mod (h : ApS M wA PA b6 x q0 q1 q2 q3 q4 T w P) {a i n : Int} (hg : getDur x a i = some n) {ba bm na ca nm cm : Nat} (hq1 : q1 = .slice (some ⟨ba, 0, none⟩) na ca) (hcm : w.cell? ⟨ba, a.toNat * 3 + 2, none⟩ = some (.slice (some ⟨bm, 0, none⟩) nm cm)) :
    ∃ a1 n1 c1 a2 n2 c2, w.cell? ⟨bm, i.toNat * 3 + 1, none⟩ = some (.slice a1 n1 c1) ∧ w.cell? ⟨bm, i.toNat * 3 + 2, none⟩ = some (.slice a2 n2 c2) := by
  obtain ⟨m, hm⟩ : ∃ m, getMod x a i = some m := by
    unfold getDur at hg
    obtain ⟨z, hz, hg⟩ := Option.bind_eq_some_iff.1 hg
    obtain ⟨m, hm, -⟩ := Option.bind_eq_some_iff.1 hg
    exact ⟨m, by unfold getMod; rw [hz]; simp only [Option.bind_some]; rw [hm]; rfl⟩
  obtain ⟨cs', T1, T', T2, at_, F⟩ := Ty.sub_focus modQ mod_sub (is := [a, i]) (y := m) h.repC (by rfl) hm rfl h.nd
  obtain ⟨hr, hL⟩ := F.loc (.vals [q0, q1, q2, q3, q4]) T rfl fun b hb => hb
  have hrep := F.rep
  simp only [RepC, RepCs] at hrep
  obtain ⟨c1, d1, U1, V1, rfl, rfl, ⟨rfl, -⟩, c2, d2, U2, V2, rfl, rfl, ⟨v2, rfl, h2⟩, c3, d3, U3, V3, rfl, rfl, ⟨v3, rfl, h3⟩, rfl, rfl⟩ := hrep
  obtain ⟨e1, f1, g1, rfl⟩ := RepSl.one h2
  obtain ⟨e2, f2, g2, rfl⟩ := RepSl.one h3
  subst hq1
  simp only [res, fld, Loc.sub, offs, Ty.size, Ty.sizes, Loc.head] at hr
  have hr : (if ba ∈ T ∧ 0 ≤ a ∧ a < (na : Int) then match w.cell? ⟨ba, a.toNat * (1 + (1 + (1 + 0))) + (1 + (1 + 0)), none⟩ with
      | some (.slice (some ⟨b, 0, none⟩) n cap) => if b ∈ T ∧ 0 ≤ i ∧ i < (n : Int) then some (modT, Loc.mem b (i.toNat * (1 + (1 + (1 + 0))))) else none
      | _ => none else none) = some (modT, at_ (.vals [q0, .slice (some ⟨ba, 0, none⟩) na ca, q2, q3, q4])) := hr
  split at hr
  · rw [show a.toNat * (1 + (1 + (1 + 0))) + (1 + (1 + 0)) = a.toNat * 3 + 2 from rfl, hcm] at hr
    simp only at hr
    split at hr
    · have hat : at_ (.vals [q0, .slice (some ⟨ba, 0, none⟩) na ca, q2, q3, q4]) = .mem bm (i.toNat * 3) := by
        have := Option.some.inj hr
        simp only [Prod.mk.injEq, true_and] at this
        exact this.symm
      rw [hat] at hL
      exact ⟨e1, f1, g1, e2, f2, g2, hL 1 _ rfl, hL 2 _ rfl⟩
    · cases hr
  · cases hr
abbrev actQ : List PStep := [.fld 1, .idx, .fld 2]
def getMods (x : Prj) (a : Int) : Option (List modT.den) := (getI (acts x) a).bind fun z => some (modsOf z)
def setMods (x : Prj) (a : Int) (l : List modT.den) : Prj := (x.1, setI (acts x) a (fun z => (z.1, z.2.1, l, z.2.2.2)), x.2.2)
theorem act_sub : prjT.sub actQ = some ⟨.sl 54 modT, fun x is => getMods x (is.headD 0), fun x is y => setMods x (is.headD 0) y⟩ := rfl
/-- the list of an activity's modes -/
theorem ApS.act (h : ApS M wA PA b6 x q0 q1 q2 q3 q4 T w P) {a : Int} {z : actT.den} (hz : getI (acts x) a = some z) :
    ∃ ba na ca am cm, q1 = .slice (some ⟨ba, 0, none⟩) na ca ∧ 0 ≤ a ∧ a < na ∧ w.cell? ⟨ba, a.toNat * 3 + 2, none⟩ = some (.slice am (modsOf z).length cm) ∧ (modsOf z).length ≤ maxLen := by
  have hg : getMods x a = some (modsOf z) := by unfold getMods; rw [hz]; rfl
  obtain ⟨cs', T1, T', T2, at_, F⟩ := Ty.sub_focus actQ act_sub (is := [a]) (y := modsOf z) h.repC (by rfl) hg rfl h.nd
  obtain ⟨hr, hL⟩ := F.loc (.vals [q0, q1, q2, q3, q4]) T rfl fun b hb => hb
  have hrep : ∃ v, cs' = [v] ∧ RepV M (.sl 54 modT) w P (prjT.all.at actQ) (modsOf z) v T' := by
    have := F.rep
    simp only [RepC] at this
    obtain ⟨v, rfl, hv⟩ := this
    exact ⟨v, rfl, by simp only [RepV]; exact hv⟩
  obtain ⟨v, rfl, hrv⟩ := hrep
  obtain ⟨am, cm, cells, Tc, rfl, hmax, -⟩ := own_list (t := modT) (c := modT.all) hrv
  simp only [res, fld, Loc.sub, offs, Ty.size, Ty.sizes, Loc.head] at hr
  split at hr
  · rename_i ba na ca hq1
    have hq1 : q1 = .slice (some ⟨ba, 0, none⟩) na ca := Option.some.inj hq1
    split at hr
    · rename_i hA
      have hat : at_ (.vals [q0, q1, q2, q3, q4]) = .mem ba (a.toNat * 3 + 2) := by
        have := Option.some.inj hr
        simp only [Prod.mk.injEq, true_and] at this
        exact this.symm
      rw [hat] at hL
      exact ⟨ba, na, ca, am, cm, hq1, hA.2.1, hA.2.2, hL 0 _ rfl, hmax⟩
    · cases hr
  · cases hr
abbrev stpM : Md := .u (.s .p (.s .p .p))
/-- the place of a resource's steps, and what comes of writing there -/
theorem ApS.stp (h : ApS M wA PA b6 x q0 q1 q2 q3 q4 T w P) {a : Int} {l : List Stp} (hg : getStp x a = some l) :
    ∃ br nr cr a0 n0 c0, q3 = .slice (some ⟨br, 0, none⟩) nr cr ∧ 0 ≤ a ∧ a < nr ∧ w.cell? ⟨br, a.toNat * 2, none⟩ = some (.slice a0 n0 c0) ∧ w.frozen? ⟨br, a.toNat * 2, none⟩ = false ∧ br ∈ T ∧ RepV M (.sl 85 stpT) w (P.add w T) .p l (.slice a0 n0 c0) [] ∧
      ∀ (l' : List Stp) (u : Value) (T' : List Nat), RepV M (.sl 85 stpT) w P stpM l' u T' → T'.Nodup → (∀ b ∈ T', wA.heap.size ≤ b ∧ b < w.heap.size ∧ b ∉ T ∧ b ≠ b6) → ∃ T'', ApS M wA PA b6 (setStp x a l') q0 q1 q2 q3 q4 T'' (w.setCell ⟨br, a.toNat * 2, none⟩ u) P := by
  obtain ⟨cs', T1, T', T2, at_, F⟩ := Ty.sub_focus stpQ stp_sub (is := [a]) (y := l) h.repC (by rfl) hg rfl h.nd
  obtain ⟨hr, hL⟩ := F.loc (.vals [q0, q1, q2, q3, q4]) T rfl fun b hb => hb
  have hrep := F.rep
  have hs := F.split
  simp only [RepC] at hrep
  obtain ⟨v, rfl, hrep⟩ := hrep
  obtain ⟨a0, n0, c0, rfl⟩ := RepSl.one hrep
  simp only [res, fld, Loc.sub, offs, Ty.size, Ty.sizes, Loc.head] at hr
  split at hr
  · rename_i br nr cr hq1
    have hq1 : q3 = .slice (some ⟨br, 0, none⟩) nr cr := Option.some.inj hq1
    split at hr
    · rename_i hA
      have hat : at_ (.vals [q0, q1, q2, q3, q4]) = .mem br (a.toNat * 2) := by
        have := Option.some.inj hr
        simp only [Prod.mk.injEq, true_and] at this
        exact this.symm
      rw [hat] at hL
      have hc : w.cell? ⟨br, a.toNat * 2, none⟩ = some (.slice a0 n0 c0) := hL 0 _ rfl
      obtain ⟨e, k, hrow⟩ := RepC.rows prjT h.repC br hA.1
      refine ⟨br, nr, cr, a0, n0, c0, hq1, hA.2.1, hA.2.2, hc, frozen_row hrow _, hA.1, ?_, fun l' u T3 hu hn hb => ?_⟩
      · have h1 : RepV M (.sl 85 stpT) w P (prjT.all.at stpQ) l (.slice a0 n0 c0) T' := by simp only [RepV]; exact hrep
        exact lent_rep h1 rfl fun b hb => by rw [hs]; simp [hb]
      · have hfree : ∀ o, ¬ P br o := RepV.free _ h.rep br hA.1
        have hbA := (h.bd br hA.1).1
        have hq := pext_set (w := w) (P := P) h.ext.there (b := br) (o := a.toNat * 2) (v := u) hfree
        have hne : br ≠ b6 := fun e => h.out (e ▸ hA.1)
        have hcell : (w.setCell ⟨br, a.toNat * 2, none⟩ u).cell? ⟨br, a.toNat * 2, none⟩ = some u := World.cell?_setCell_same _ _ _ hc
        have hu2 : RepV M (.sl 85 stpT) (w.setCell ⟨br, a.toNat * 2, none⟩ u) P stpM l' u T3 := RepV.mono _ hu (hq.keeps T3 fun b hb' => ⟨(hb b hb').2.1, by simp; exact fun e => (hb b hb').2.2.1 (e ▸ hA.1)⟩)
        obtain ⟨cs2, hv, hrep2⟩ := F.plug (.vals [q0, q1, q2, q3, q4]) (w.setCell ⟨br, a.toNat * 2, none⟩ u) P (prjT.all.at stpQ) prjT.all l' [u] T3 rfl (fun _ _ => trivial) hq.later (by simp only [RepC]; exact ⟨u, rfl, hu2⟩)
          (by
            rw [hat]
            intro j v hj
            cases j with
            | zero => cases hj; simpa using hcell
            | succ j => simp at hj)
          (fun c _ e n hr => row_setCell _ _ _ _ _ hr)
          (fun c hc o hn => by
            rw [hat] at hn
            refine World.cell?_setCell_other _ _ _ _ (fun e => hn ?_)
            cases e
            exact ⟨rfl, Nat.le_refl _, by simp⟩)
          (fun c o hh => hh.elim) (fun _ _ _ h => h) (.inl ⟨rfl, rfl⟩)
        have hv : [q0, q1, q2, q3, q4] = cs2 := hv
        subst hv
        have hT : ∀ b, b ∈ T1 ++ (T3 ++ T2) → b ∈ T3 ∨ b ∈ T := fun b hb => by
          simp only [List.mem_append] at hb
          rcases hb with hb | hb | hb
          · exact .inr (by rw [hs]; simp [hb])
          · exact .inl hb
          · exact .inr (by rw [hs]; simp [hb])
        have hnd := h.nd
        rw [hs] at hnd
        obtain ⟨m1, m2, m3⟩ := List.nodup_append.1 hnd
        obtain ⟨m4, m5, m6⟩ := List.nodup_append.1 m2
        refine ⟨T1 ++ (T3 ++ T2), h.ext.trans hq fun b hb => .inl (by simp at hb; omega), h.free, h.b6A, Nat.lt_of_lt_of_le h.lt hq.size, ?_, ?_, ?_, fun b hb' => ?_, fun hb' => ?_⟩
        · rw [set_other (fun e => hne e.symm)]
          exact h.row
        · exact RepV_of_RepC prjT hrep2
        · refine List.nodup_append.2 ⟨m1, List.nodup_append.2 ⟨hn, m5, fun x hx y hy e => ?_⟩, fun x hx y hy e => ?_⟩
          · exact (hb x hx).2.2.1 (by rw [hs]; simp [e, hy])
          · rcases List.mem_append.1 hy with hy | hy
            · exact (hb y hy).2.2.1 (by rw [hs]; simp [← e, hx])
            · exact m3 x hx y (by simp [hy]) e
        · rcases hT b hb' with h' | h'
          · exact ⟨(hb b h').1, Nat.lt_of_lt_of_le (hb b h').2.1 hq.size⟩
          · exact ⟨(h.bd b h').1, Nat.lt_of_lt_of_le (h.bd b h').2 hq.size⟩
        · rcases hT _ hb' with h' | h'
          · exact (hb _ h').2.2.2 rfl
          · exact h.out h'
    · cases hr
  · cases hr
theorem five_fr {w : World} {b : Nat} {c : Array Value} {e : TypeId} (h : w.heap[b]? = some (.cells c e (0, 0))) : w.frozen? ⟨b, 0, none⟩ = false ∧ w.frozen? ⟨b, 1, none⟩ = false ∧ w.frozen? ⟨b, 2, none⟩ = false ∧ w.frozen? ⟨b, 3, none⟩ = false ∧ w.frozen? ⟨b, 4, none⟩ = false :=
  ⟨frozen_of h 0, frozen_of h 1, frozen_of h 2, frozen_of h 3, frozen_of h 4⟩
theorem four_at {w : World} {b : Nat} {v0 v1 v2 v3 : Value} {e : TypeId} (h : w.heap[b]? = some (.cells #[v0, v1, v2, v3] e (0, 0))) :
    w.cell? ⟨b, 0, none⟩ = some v0 ∧ w.cell? ⟨b, 1, none⟩ = some v1 ∧ w.cell? ⟨b, 2, none⟩ = some v2 ∧ w.cell? ⟨b, 3, none⟩ = some v3 :=
  ⟨by rw [cell_of h]; rfl, by rw [cell_of h]; rfl, by rw [cell_of h]; rfl, by rw [cell_of h]; rfl⟩
def set5 (w : World) (b : Nat) (u0 u1 u2 u3 u4 : Value) : World := ((((w.setCell ⟨b, 0, none⟩ u0).setCell ⟨b, 1, none⟩ u1).setCell ⟨b, 2, none⟩ u2).setCell ⟨b, 3, none⟩ u3).setCell ⟨b, 4, none⟩ u4
theorem set5_ok {w : World} {P : Prot} (ht : There w P) {b : Nat} {u0 u1 u2 u3 u4 : Value} {e : TypeId} {c0 c1 c2 c3 c4 : Value} (hb : ∀ o, ¬ P b o) (hr : w.heap[b]? = some (.cells #[c0, c1, c2, c3, c4] e (0, 0))) :
    PExt [b] w P (set5 w b u0 u1 u2 u3 u4) P ∧ (set5 w b u0 u1 u2 u3 u4).heap[b]? = some (.cells #[u0, u1, u2, u3, u4] e (0, 0)) := by
  unfold set5
  have q1 := pext_set (w := w) (P := P) ht (o := 0) (v := u0) hb
  have q2 := pext_set (P := P) q1.there (o := 1) (v := u1) hb
  have q3 := pext_set (P := P) q2.there (o := 2) (v := u2) hb
  have q4 := pext_set (P := P) q3.there (o := 3) (v := u3) hb
  have q5 := pext_set (P := P) q4.there (o := 4) (v := u4) hb
  refine ⟨(((q1.trans q2 fun b hb => .inr hb).trans q3 fun b hb => .inr hb).trans q4 fun b hb => .inr hb).trans q5 fun b hb => .inr hb, ?_⟩
  have := set_heap (set_heap (set_heap (set_heap (set_heap hr 0 u0) 1 u1) 2 u2) 3 u3) 4 u4
  simpa using this
theorem prj_slices {x : Prj} {v : Value} {T : List Nat} {m : Md} (h : RepV M prjT w P m x v T) : ∃ n a1 n1 c1 a2 n2 c2 a3 n3 c3 a4 n4 c4, v = .agg #[.int .i64 n, .slice a1 n1 c1, .slice a2 n2 c2, .slice a3 n3 c3, .slice a4 n4 c4] := by
  have h1 : ∃ cs, v = .agg (List.toArray cs) ∧ RepCs M [.int .i64, .sl 52 actT, .sl 92 (.st [.int .i64, .int .i64, .bool, .int .i64]), .sl 60 resT, .sl 3 (.int .i64)] w P m x cs T := h
  obtain ⟨cs, rfl, hr⟩ := h1
  simp only [RepCs, RepC] at hr
  obtain ⟨c1, d1, T1, U1, rfl, rfl, ⟨rfl, -⟩, c2, d2, T2, U2, rfl, rfl, ⟨v2, rfl, h2⟩, c3, d3, T3, U3, rfl, rfl, ⟨v3, rfl, h3⟩, c4, d4, T4, U4, rfl, rfl, ⟨v4, rfl, h4⟩, c5, d5, T5, U5, rfl, rfl, ⟨v5, rfl, h5⟩, rfl, rfl⟩ := hr
  obtain ⟨a1, n1, k1, rfl⟩ := RepSl.one h2
  obtain ⟨a2, n2, k2, rfl⟩ := RepSl.one h3
  obtain ⟨a3, n3, k3, rfl⟩ := RepSl.one h4
  obtain ⟨a4, n4, k4, rfl⟩ := RepSl.one h5
  exact ⟨_, a1, n1, k1, a2, n2, k2, a3, n3, k3, a4, n4, k4, rfl⟩
theorem ApS.drew (h : ApS M wA PA b6 x q0 q1 q2 q3 q4 T w P) : ApS M wA PA b6 x q0 q1 q2 q3 q4 T w.drew P := h.later (pext_drew h.ext.there)
theorem ApS.alloc (h : ApS M wA PA b6 x q0 q1 q2 q3 q4 T w P) (o : Obj) : ApS M wA PA b6 x q0 q1 q2 q3 q4 T (w.alloc o) P := h.later (pext_bel ((Below.refl _ _).alloc (Nat.le_refl _) _) h.ext.there)
theorem ApS.start {w1 : World} {P1 : Prot} (hp : PExt [] wA PA w1 P1) (hr : RepV M prjT w1 P1 prjT.all x (.agg #[q0, q1, q2, q3, q4]) T) (hn : T.Nodup) (hb : ∀ b ∈ T, wA.heap.size ≤ b ∧ b < w1.heap.size) :
    ApS M wA PA w1.heap.size x q0 q1 q2 q3 q4 T (w1.alloc (.cells #[q0, q1, q2, q3, q4] 35)) P1 := by
  have hq : PExt [] w1 P1 (w1.alloc (.cells #[q0, q1, q2, q3, q4] 35)) P1 := pext_bel ((Below.refl _ _).alloc (Nat.le_refl _) _) hp.there
  have hf : ∀ o, ¬ P1 w1.heap.size o := fun o ho => by
    obtain ⟨v, hv⟩ := hp.there _ _ ho
    have := World.block_lt_of_cell? w1 ⟨_, o, none⟩ hv
    simp at this
  have hs : (w1.alloc (.cells #[q0, q1, q2, q3, q4] 35)).heap.size = w1.heap.size + 1 := by simp
  exact ⟨hp.trans0 hq, hf, hp.size, by omega, heap_alloc_new _ _, keep_own hr hq fun b hb' => (hb b hb').2, hn, fun b hb' => ⟨(hb b hb').1, by have := (hb b hb').2; omega⟩, fun hm => by have := (hb _ hm).2; omega⟩
/-- a call to which the project is lent -/
theorem ApS.call {B : Base} {f : FuncId} {ps : List Ty} {im m : Md} {r : Ty} {F : Ty.dens ps → Unit → Option (r.den × Unit)} (h : ApS M wA PA b6 x q0 q1 q2 q3 q4 T w P) (hs : SigB B M f ⟨ps, [], none, im, r, m, F⟩) (hb : BaseOk M B wA PA) (hr : r.fresh m = true) {xs : Ty.dens ps} {vs : List Value} (ha : RepVs M ps w (P.add w T) .p xs vs []) {y : r.den × Unit} (hy : F xs () = some y) :
    Calls M f (List.toArray (vs ++ [])) w fun e w' => ∃ u P' Tr, e = .returned u ∧ PExt [] w P w' P' ∧ RepV M r w' P' m y.1 u Tr ∧ Tr.Nodup ∧ (∀ b ∈ Tr, w.heap.size ≤ b ∧ b < w'.heap.size) := by
  refine (call_lent hs (hb.later h.ext.later) h.ext.there (fun b hb => ⟨(h.bd b hb).2, RepV.free _ h.rep b hb⟩) hr ha rfl hy).mono ?_
  rintro e w' ⟨u, P', Tr, rfl, h1, h2, h3, h4, -⟩
  exact ⟨u, P', Tr, rfl, h1, h2, h3, h4⟩
/-- the project asked about -/
theorem ok_call {B : Base} {f : FuncId} {FP : Ty.dens [prjT] → Unit → Option (Bool × Unit)} (hF : SigB B M f ⟨[prjT], [], none, .p, .bool, .p, FP⟩) (hb : BaseOk M B wA PA) (h : ApS M wA PA b6 x q0 q1 q2 q3 q4 T w P) {k : Bool} {u : Unit} (hy : FP (x, ()) () = some (k, u)) :
    Calls M f #[.agg #[q0, q1, q2, q3, q4]] w fun e w' => ∃ P', e = .returned (.bool k) ∧ ApS M wA PA b6 x q0 q1 q2 q3 q4 T w' P' := by
  refine (h.call hF hb (by rfl) (xs := (x, ())) (vs := [.agg #[q0, q1, q2, q3, q4]]) ?_ hy).mono ?_
  · have hl := lent_rep h.rep rfl (D := T) fun b hb => hb
    simp only [RepVs, Md.hd, Md.tl]
    exact ⟨_, _, [], [], rfl, rfl, hl, rfl, rfl⟩
  · rintro e w' ⟨u, P', Tr, rfl, hp, hr, -⟩
    simp only [RepV] at hr
    exact ⟨P', by rw [hr.1], h.later hp⟩
/-- what is returned -/
theorem ApS.ret (h : ApS M wA PA b6 x q0 q1 q2 q3 q4 T w P) {w0 : World} {P0 : Prot} (hp : PExt [] w0 P0 wA PA) {b4 : Nat} (h4 : b4 < wA.heap.size) (h40 : w0.heap.size ≤ b4) (hn4 : ∀ o, ¬ PA b4 o) {c0 c1 c2 c3 c4 : Value} (hr4 : wA.heap[b4]? = some (.cells #[c0, c1, c2, c3, c4] 35 (0, 0))) :
    w.heap[b4]? = some (.cells #[c0, c1, c2, c3, c4] 35 (0, 0)) ∧ (set5 w b4 q0 q1 q2 q3 q4).heap[b4]? = some (.cells #[q0, q1, q2, q3, q4] 35 (0, 0)) ∧
    ∃ P' T, PExt [] w0 P0 (set5 w b4 q0 q1 q2 q3 q4) P' ∧ RepV M (.tup [prjT, .bool]) (set5 w b4 q0 q1 q2 q3 q4) P' (Ty.all (.tup [prjT, .bool])) (x, true, ()) (.tuple #[.agg #[q0, q1, q2, q3, q4], .bool true]) T ∧
      T.Nodup ∧ ∀ b ∈ T, w0.heap.size ≤ b ∧ b < (set5 w b4 q0 q1 q2 q3 q4).heap.size := by
  have hrow : w.heap[b4]? = some (.cells #[c0, c1, c2, c3, c4] 35 (0, 0)) := by
    rw [h.ext.block _ h4 (by simp)]
    exact hr4
  have hn := free_later h.ext h4 hn4
  obtain ⟨q, qr⟩ := set5_ok (u0 := q0) (u1 := q1) (u2 := q2) (u3 := q3) (u4 := q4) h.ext.there hn hrow
  have hs0 := hp.size
  refine ⟨hrow, qr, P, T, (hp.trans0 h.ext).trans q fun b hb => .inl (by simp at hb; omega), ?_, h.nd, fun b hb => ⟨by have := (h.bd b hb).1; omega, Nat.lt_of_lt_of_le (h.bd b hb).2 q.size⟩⟩
  have hr := RepV.mono _ h.rep (q.keeps T fun b hb => ⟨(h.bd b hb).2, by have := (h.bd b hb).1; simp; omega⟩)
  generalize set5 w b4 q0 q1 q2 q3 q4 = w3 at hr
  show RepV M (.tup [prjT, .bool]) w3 P (.s prjT.all (.s .p .p)) (x, true, ()) _ T
  have hb : RepV M .bool w3 P .p true (.bool true) [] := by simp [RepV]
  show ∃ vs, Value.tuple #[.agg #[q0, q1, q2, q3, q4], .bool true] = .tuple (List.toArray vs) ∧ RepVs M [prjT, .bool] w3 P (.s prjT.all (.s .p .p)) (x, true, ()) vs T
  refine ⟨[.agg #[q0, q1, q2, q3, q4], .bool true], rfl, ?_⟩
  simp only [RepVs, Md.hd, Md.tl]
  exact ⟨.agg #[q0, q1, q2, q3, q4], [.bool true], T, [], rfl, by simp, hr, .bool true, [], [], [], rfl, rfl, hb, rfl, rfl⟩
/-- the empty project returned -/
theorem zero_ret {w0 : World} {P0 : Prot} (hp : PExt [] w0 P0 w P) {b4 : Nat} (h40 : w0.heap.size ≤ b4) (hn4 : ∀ o, ¬ P b4 o) {c0 c1 c2 c3 c4 : Value} (hr4 : w.heap[b4]? = some (.cells #[c0, c1, c2, c3, c4] 35 (0, 0))) :
    (set5 w b4 (.int .i64 0) (.slice none 0 0) (.slice none 0 0) (.slice none 0 0) (.slice none 0 0)).heap[b4]? = some (.cells #[.int .i64 0, .slice none 0 0, .slice none 0 0, .slice none 0 0, .slice none 0 0] 35 (0, 0)) ∧
    PExt [] w0 P0 (set5 w b4 (.int .i64 0) (.slice none 0 0) (.slice none 0 0) (.slice none 0 0) (.slice none 0 0)) P ∧
    RepV M (.tup [prjT, .bool]) (set5 w b4 (.int .i64 0) (.slice none 0 0) (.slice none 0 0) (.slice none 0 0) (.slice none 0 0)) P (Ty.all (.tup [prjT, .bool])) (zPrj, false, ()) (.tuple #[.agg #[.int .i64 0, .slice none 0 0, .slice none 0 0, .slice none 0 0, .slice none 0 0], .bool false]) [] := by
  obtain ⟨q, qr⟩ := set5_ok (u0 := .int .i64 0) (u1 := .slice none 0 0) (u2 := .slice none 0 0) (u3 := .slice none 0 0) (u4 := .slice none 0 0) hp.there hn4 hr4
  refine ⟨qr, hp.trans q fun b hb => .inl (by simp at hb; omega), ?_⟩
  generalize set5 w b4 (.int .i64 0) (.slice none 0 0) (.slice none 0 0) (.slice none 0 0) (.slice none 0 0) = w3
  have nil : ∀ (e : TypeId) (t : Ty) (c : Md), RepC M (.sl e t) w3 P (.u c) [] [.slice none 0 0] [] := fun e t c => by
    simp only [RepC]
    exact ⟨_, rfl, .inl ⟨rfl, rfl, rfl⟩⟩
  have hz : RepV M prjT w3 P prjT.all zPrj (.agg #[.int .i64 0, .slice none 0 0, .slice none 0 0, .slice none 0 0, .slice none 0 0]) [] := by
    refine RepV_of_RepC (cs := [.int .i64 0, .slice none 0 0, .slice none 0 0, .slice none 0 0, .slice none 0 0]) prjT ?_
    have hi : RepC M (.int .i64) w3 P .p (0 : Int) [.int .i64 0] [] := by simp [RepC]
    show RepCs M [.int .i64, .sl 52 actT, .sl 92 (.st [.int .i64, .int .i64, .bool, .int .i64]), .sl 60 resT, .sl 3 (.int .i64)] w3 P prjT.all zPrj [.int .i64 0, .slice none 0 0, .slice none 0 0, .slice none 0 0, .slice none 0 0] []
    simp only [RepCs]
    exact ⟨[_], _, [], [], rfl, rfl, hi, [_], _, [], [], rfl, rfl, nil _ _ _, [_], _, [], [], rfl, rfl, nil _ _ _, [_], _, [], [], rfl, rfl, nil _ _ _, [_], _, [], [], rfl, rfl, nil _ _ _, rfl, rfl⟩
  have hb : RepV M .bool w3 P .p false (.bool false) [] := by simp [RepV]
  show ∃ vs, Value.tuple #[.agg #[.int .i64 0, .slice none 0 0, .slice none 0 0, .slice none 0 0, .slice none 0 0], .bool false] = .tuple (List.toArray vs) ∧ RepVs M [prjT, .bool] w3 P (.s prjT.all (.s .p .p)) (zPrj, false, ()) vs []
  refine ⟨[_, .bool false], rfl, ?_⟩
  simp only [RepVs, Md.hd, Md.tl]
  exact ⟨_, [.bool false], [], [], rfl, rfl, hz, .bool false, [], [], [], rfl, rfl, hb, rfl, rfl⟩
/-- the reduced steps -/
theorem red_call {B : Base} {f : FuncId} {FR : Ty.dens [.sl 85 stpT, .int .i64, .int .i64] → Unit → Option (List Stp × Unit)} (hR : SigB B M f ⟨[.sl 85 stpT, .int .i64, .int .i64], [], none, .p, .sl 85 stpT, Ty.all (.sl 85 stpT), FR⟩) (hb : BaseOk M B wA PA) (h : ApS M wA PA b6 x q0 q1 q2 q3 q4 T w P)
    {a : Int} {l : List Stp} (hg : getStp x a = some l) {br nr cr : Nat} {ax : Option Addr} {nx cx : Nat} (hq : q3 = .slice (some ⟨br, 0, none⟩) nr cr) (hc : w.cell? ⟨br, a.toNat * 2, none⟩ = some (.slice ax nx cx)) {t n : Int} {r : List Stp} {u : Unit} (hF : FR (l, t, n, ()) () = some (r, u)) :
    Calls M f #[.slice ax nx cx, .int .i64 t, .int .i64 n] w fun e w' => ∃ P' T' au nu cu, e = .returned (.slice au nu cu) ∧ ApS M wA PA b6 x q0 q1 q2 q3 q4 T w' P' ∧ RepV M (.sl 85 stpT) w' P' stpM r (.slice au nu cu) T' ∧ T'.Nodup ∧ ∀ b ∈ T', w.heap.size ≤ b ∧ b < w'.heap.size := by
  obtain ⟨br', nr', cr', a0, n0, c0, hq1, -, -, hcs, -, -, hlr, -⟩ := h.stp hg
  rw [hq] at hq1
  injection hq1 with hq1
  injection hq1 with hq1
  injection hq1 with hq1
  subst hq1
  have hcc := hc.symm.trans hcs
  injection hcc with hcc
  rw [← hcc] at hlr
  refine (h.call hR hb (by rfl) (xs := (l, t, n, ())) (vs := [.slice ax nx cx, .int .i64 t, .int .i64 n]) ?_ hF).mono ?_
  · have h1 : ∀ k : Int, RepV M (.int .i64) w (P.add w T) .p k (.int .i64 k) [] := fun k => by simp [RepV]
    simp only [RepVs, Md.hd, Md.tl]
    exact ⟨_, _, [], [], rfl, rfl, hlr, _, _, [], [], rfl, rfl, h1 t, _, _, [], [], rfl, rfl, h1 n, rfl, rfl⟩
  · rintro e w' ⟨v, P', T', rfl, hp, hr, hn, hb'⟩
    have hr2 : RepV M (.sl 85 stpT) w' P' stpM r v T' := hr
    obtain ⟨au, cu, cells, Tc, rfl, -⟩ := own_list (t := stpT) (c := .s .p (.s .p .p)) hr2
    exact ⟨P', T', au, _, cu, rfl, h.later hp, hr2, hn, hb'⟩
end
set_option maxRecDepth 100000 in
theorem Try.zero_post {w0 w : World} {P0 P : Prot} {b4 : Nat} {c0 c1 c2 c3 c4 : Value} {vs : List Value} (hp : PExt [] w0 P0 w P) (h40 : w0.heap.size ≤ b4) (hn4 : ∀ o, ¬ P b4 o) (hr4 : w.heap[b4]? = some (.cells #[c0, c1, c2, c3, c4] 35 (0, 0)))
    {a : Act} (hd : a.defers = []) (ha4 : a.tmps.getD 4 undef = .pointer (some ⟨b4, 0, none⟩)) (ha5 : a.tmps.getD 5 undef = .bool false) :
    bodyPost Try.prog Try.f8 (fun e w' => ∃ u P' Tr Tq, e = .returned u ∧ PExt [] w0 P0 w' P' ∧ RepV Try.prog (.tup [prjT, .bool]) w' P' (Ty.all (.tup [prjT, .bool])) (zPrj, false, ()) u Tr ∧ IoR Try.prog w' P' .p [prjT, dlyT] none () vs Tq ∧ (Tr ++ Tq).Nodup ∧ ∀ (b : Nat), b ∈ Tr ++ Tq → b ∈ [] ∨ w0.heap.size ≤ b ∧ b < w'.heap.size) .ret a
      (set5 w b4 (.int .i64 0) (.slice none 0 0) (.slice none 0 0) (.slice none 0 0) (.slice none 0 0)) := by
  obtain ⟨q1, g1, g2⟩ := zero_ret hp h40 hn4 hr4
  refine bodyPost_ret (P := Try.prog) (fn := Try.f8) (v := .tuple #[.agg #[.int .i64 0, .slice none 0 0, .slice none 0 0, .slice none 0 0, .slice none 0 0], .bool false]) ?_ hd ?_
  · rw [results_cell_tmp rfl, ha4, ha5]
    simp [asAddr, Result.andThen]
    rw [run_loadVar_row _ _ 35 35 _ _ _ q1 Try.underlying35 rfl rfl]
  · exact ⟨_, P, [], [], rfl, g1, g2, rfl, by simp, fun b hb => by simp at hb⟩
set_option maxRecDepth 100000 in
theorem Try.ap_post {w0 wA w : World} {P0 PA P : Prot} {b4 b6 : Nat} {x : Prj} {q0 q1 q2 q3 q4 c0 c1 c2 c3 c4 : Value} {T : List Nat} {vs : List Value} (h : ApS Try.prog wA PA b6 x q0 q1 q2 q3 q4 T w P) (hp : PExt [] w0 P0 wA PA) (h4 : b4 < wA.heap.size) (h40 : w0.heap.size ≤ b4) (hn4 : ∀ o, ¬ PA b4 o) (hr4 : wA.heap[b4]? = some (.cells #[c0, c1, c2, c3, c4] 35 (0, 0)))
    {a : Act} (hd : a.defers = []) (ha4 : a.tmps.getD 4 undef = .pointer (some ⟨b4, 0, none⟩)) (ha5 : a.tmps.getD 5 undef = .bool true) :
    bodyPost Try.prog Try.f8 (fun e w' => ∃ u P' Tr Tq, e = .returned u ∧ PExt [] w0 P0 w' P' ∧ RepV Try.prog (.tup [prjT, .bool]) w' P' (Ty.all (.tup [prjT, .bool])) (x, true, ()) u Tr ∧ IoR Try.prog w' P' .p [prjT, dlyT] none () vs Tq ∧ (Tr ++ Tq).Nodup ∧ ∀ (b : Nat), b ∈ Tr ++ Tq → b ∈ [] ∨ w0.heap.size ≤ b ∧ b < w'.heap.size) .ret a
      (set5 w b4 q0 q1 q2 q3 q4) := by
  obtain ⟨-, qr, P', T', g1, g2, g3, g4⟩ := h.ret hp h4 h40 hn4 hr4
  refine bodyPost_ret (P := Try.prog) (fn := Try.f8) (v := .tuple #[.agg #[q0, q1, q2, q3, q4], .bool true]) ?_ hd ?_
  · rw [results_cell_tmp rfl, ha4, ha5]
    simp [asAddr, Result.andThen]
    rw [run_loadVar_row _ _ 35 35 _ _ _ qr Try.underlying35 rfl rfl]
  · exact ⟨_, P', T', [], rfl, g1, g2, rfl, by simpa using g3, fun b hb => .inr (g4 b (by simpa using hb))⟩
set_option maxRecDepth 100000 in
set_option maxHeartbeats 4000000 in
theorem Try.ap_ok {B : Base} {FD : Ty.dens [prjT, dlyT] → Unit → Option (Bool × Unit)} {FC : Ty.dens [prjT] → Unit → Option (Prj × Unit)} {FR : Ty.dens [.sl 85 stpT, .int .i64, .int .i64] → Unit → Option (List Stp × Unit)} {FP : Ty.dens [prjT] → Unit → Option (Bool × Unit)}
    (hD : SigB B Try.prog 25 ⟨[prjT, dlyT], [], none, .p, .bool, .p, FD⟩) (hC : SigB B Try.prog 26 ⟨[prjT], [], none, .p, prjT, Ty.all prjT, FC⟩) (hR : SigB B Try.prog 27 ⟨[.sl 85 stpT, .int .i64, .int .i64], [], none, .p, .sl 85 stpT, Ty.all (.sl 85 stpT), FR⟩) (hP : SigB B Try.prog 28 ⟨[prjT], [], none, .p, .bool, .p, FP⟩) :
    SigB B Try.prog 8 ⟨[prjT, dlyT], [], none, .p, .tup [prjT, .bool], Ty.all (.tup [prjT, .bool]), apF FD FC FR FP⟩ := by
  refine ⟨⟨Try.f8, Try.func8, by decide, rfl⟩, fun w P xs ys vs caps Ti y hb ht hv hTi hTp hcap hy => ?_⟩
  obtain ⟨p, d, u⟩ := xs
  change Prj at p
  obtain ⟨dk, da, dn, dt, ud⟩ := d
  change Int at dk
  change Int at da
  change Int at dn
  change Int at dt
  cases u
  cases ud
  replace hv : ArgsR Try.prog w P .p none [prjT, dlyT] (p, (dk, da, dn, dt, ()), ()) vs Ti := hv
  replace hcap : caps = [] := hcap
  replace hy : apF FD FC FR FP (p, (dk, da, dn, dt, ()), ()) ys = some y := hy
  simp only [ArgsR] at hv
  obtain ⟨v0, r, rfl, h0, v1, r1, rfl, h1, rfl, rfl⟩ := hv
  subst hcap
  have h1' := h1
  simp only [RepV, RepCs, RepC] at h1'
  obtain ⟨cs, rfl, c1, d1, T1, U1, rfl, -, ⟨rfl, -⟩, c2, d2, T2, U2, rfl, -, ⟨rfl, -⟩, c3, d3, T3, U3, rfl, -, ⟨rfl, -⟩, c4, d4, T4, U4, rfl, -, ⟨rfl, -⟩, rfl, -⟩ := h1'
  simp only [List.cons_append, List.nil_append] at h1 ⊢
  obtain ⟨p0, a1, n1, k1, a2, n2, k2, a3, n3, k3, a4, n4, k4, rfl⟩ := prj_slices h0
  unfold apF at hy
  obtain ⟨⟨ok, u1⟩, hFD, hy⟩ := Option.bind_eq_some_iff.1 hy
  cases u1
  have hp2 : PExt [] w P (((w.alloc (Obj.cells #[.int .i64 p0, .slice a1 n1 k1, .slice a2 n2 k2, .slice a3 n3 k3, .slice a4 n4 k4] 35)).alloc (Obj.cells #[.int .i64 dk, .int .i64 da, .int .i64 dn, .int .i64 dt] 39)).alloc (Obj.cells #[.int .i64 0, .slice none 0 0, .slice none 0 0, .slice none 0 0, .slice none 0 0] 35)) P :=
    pext_bel ((((Below.refl _ _).alloc (Nat.le_refl _) _).alloc (by simp) _).alloc (by simp; omega) _) ht
  have hcall := call_plain hD (hb.later hp2.later) hp2.there (xs := (p, (dk, da, dn, dt, ()), ())) (ys := ()) (vs := [.agg #[.int .i64 p0, .slice a1 n1 k1, .slice a2 n2 k2, .slice a3 n3 k3, .slice a4 n4 k4], .agg #[.int .i64 dk, .int .i64 da, .int .i64 dn, .int .i64 dt]]) (caps := []) (by
    have e0 := keep_p h0 hp2.later
    have e1 := keep_p h1 hp2.later
    simp only [RepVs, Md.hd, Md.tl]
    exact ⟨_, _, [], [], rfl, rfl, e0, _, _, [], [], rfl, rfl, e1, rfl, rfl⟩) rfl hFD
  obtain ⟨wa, hwa⟩ : ∃ wa, wa = (((w.alloc (Obj.cells #[.int .i64 p0, .slice a1 n1 k1, .slice a2 n2 k2, .slice a3 n3 k3, .slice a4 n4 k4] 35)).alloc (Obj.cells #[.int .i64 dk, .int .i64 da, .int .i64 dn, .int .i64 dt] 39)).alloc (Obj.cells #[.int .i64 0, .slice none 0 0, .slice none 0 0, .slice none 0 0, .slice none 0 0] 35)) := ⟨_, rfl⟩
  rw [← hwa] at hcall hp2
  have WA : AsideQ (wa.heap.size = w.heap.size + 1 + 1 + 1 ∧ wa.heap[w.heap.size]? = some (.cells #[.int .i64 p0, .slice a1 n1 k1, .slice a2 n2 k2, .slice a3 n3 k3, .slice a4 n4 k4] 35 (0, 0)) ∧ wa.heap[w.heap.size + 1]? = some (.cells #[.int .i64 dk, .int .i64 da, .int .i64 dn, .int .i64 dt] 39 (0, 0)) ∧ wa.heap[w.heap.size + 1 + 1]? = some (.cells #[.int .i64 0, .slice none 0 0, .slice none 0 0, .slice none 0 0, .slice none 0 0] 35 (0, 0))) := by
    subst hwa
    have he : ∀ (w : World) (o : Obj), (w.alloc o).heap = w.heap.push o := fun _ _ => rfl
    refine ⟨⟨by simp only [he, Array.size_push], ?_, ?_, ?_⟩⟩ <;> simp only [he, Array.getElem?_push, Array.size_push] <;> repeat (first | rfl | rw [if_pos rfl] | rw [if_neg (by omega)])
  have HP : AsideQ (PExt [] w P wa P) := ⟨hp2⟩
  have X : AsideQ (BaseOk Try.prog B w P ∧ There w P ∧ RepV Try.prog prjT w P .p p (.agg #[.int .i64 p0, .slice a1 n1 k1, .slice a2 n2 k2, .slice a3 n3 k3, .slice a4 n4 k4]) []) := ⟨hb, ht, h0⟩
  have SG : AsideQ (SigB B Try.prog 26 ⟨[prjT], [], none, .p, prjT, Ty.all prjT, FC⟩ ∧ SigB B Try.prog 27 ⟨[.sl 85 stpT, .int .i64, .int .i64], [], none, .p, .sl 85 stpT, Ty.all (.sl 85 stpT), FR⟩ ∧ SigB B Try.prog 28 ⟨[prjT], [], none, .p, .bool, .p, FP⟩) := ⟨hC, hR, hP⟩
  have XY : AsideQ ((if ok = true then (FC (p, ()) ()).bind fun c => (if eqZ dk 2 = true then (getI (acts c.1) da).bind fun z => longL da dn (modsOf z).length 0 c.1 else if eqZ dk 3 = true then (getStp c.1 da).bind fun l => (FR (l, dt, dn, ()) ()).map fun (r : List Stp × Unit) => setStp c.1 da r.1 else some c.1).bind fun o => (FP (o, ()) ()).bind fun k => if k.1 = true then some ((o, true, ()), ()) else some ((zPrj, false, ()), ())
    else some ((zPrj, false, ()), ())) = some y) := ⟨hy⟩
  clear hD hC hR hP hp2 h0 h1 hTi hTp hb ht hFD hy
  go_enter Try.func8, Try.ntmps8
  have c2 := five_at WA.out.2.1
  have c3 := four_at WA.out.2.2.1
  go_wp2_with fail
  rw [← hwa]
  refine hcall.mono ?_
  rintro e w1 ⟨v, P1, T, rfl, hp1, hr, -⟩
  simp only [RepV] at hr
  obtain ⟨rfl, -⟩ := hr
  have e2 : w1.heap[w.heap.size]? = some (.cells #[.int .i64 p0, .slice a1 n1 k1, .slice a2 n2 k2, .slice a3 n3 k3, .slice a4 n4 k4] 35 (0, 0)) := by
    rw [hp1.block _ (by have := WA.out.1; omega) (by simp)]
    exact WA.out.2.1
  have e3 : w1.heap[w.heap.size + 1]? = some (.cells #[.int .i64 dk, .int .i64 da, .int .i64 dn, .int .i64 dt] 39 (0, 0)) := by
    rw [hp1.block _ (by have := WA.out.1; omega) (by simp)]
    exact WA.out.2.2.1
  have e4 : w1.heap[w.heap.size + 1 + 1]? = some (.cells #[.int .i64 0, .slice none 0 0, .slice none 0 0, .slice none 0 0, .slice none 0 0] 35 (0, 0)) := by
    rw [hp1.block _ (by have := WA.out.1; omega) (by simp)]
    exact WA.out.2.2.2
  have hn4 : ∀ o, ¬ P1 (w.heap.size + 1 + 1) o := free_later hp1 (by have := WA.out.1; omega) fun o ho => by
    obtain ⟨v, hv⟩ := X.out.2.1 _ _ ho
    have := World.block_lt_of_cell? w ⟨_, o, none⟩ hv
    simp at this
    omega
  have PW : AsideQ (PExt [] w P w1 P1) := ⟨HP.out.trans0 hp1⟩
  have E1 : AsideQ (w1.heap[w.heap.size]? = some (.cells #[.int .i64 p0, .slice a1 n1 k1, .slice a2 n2 k2, .slice a3 n3 k3, .slice a4 n4 k4] 35 (0, 0)) ∧ w1.heap[w.heap.size + 1]? = some (.cells #[.int .i64 dk, .int .i64 da, .int .i64 dn, .int .i64 dt] 39 (0, 0)) ∧ w1.heap[w.heap.size + 1 + 1]? = some (.cells #[.int .i64 0, .slice none 0 0, .slice none 0 0, .slice none 0 0, .slice none 0 0] 35 (0, 0)) ∧ (∀ o, ¬ P1 (w.heap.size + 1 + 1) o) ∧ w.heap.size + 1 + 1 < w1.heap.size) :=
    ⟨e2, e3, e4, hn4, by have := WA.out.1; have := hp1.size; omega⟩
  clear hp1 e2 e3 e4 hn4 hcall c2 c3
  obtain ⟨c40, c41, c42, c43, c44⟩ := five_at E1.out.2.2.1
  obtain ⟨f40, f41, f42, f43, f44⟩ := five_fr E1.out.2.2.1
  cases ok with
  | false =>
    go_wp2
    (try simp only [Exit.inBlock, Exit.then])
    have hy := Option.some.inj (show some ((zPrj, false, ()), ()) = some y from XY.out)
    subst hy
    exact Try.zero_post PW.out (by omega) E1.out.2.2.2.1 E1.out.2.2.1 rfl rfl rfl
  | true =>
    obtain ⟨⟨c, u1⟩, hFC, hy⟩ := Option.bind_eq_some_iff.1 (show (FC (p, ()) ()).bind _ = some y from XY.out)
    cases u1
    have hcall := call_plain SG.out.1 (X.out.1.later PW.out.later) PW.out.there (xs := (p, ())) (ys := ()) (vs := [.agg #[.int .i64 p0, .slice a1 n1 k1, .slice a2 n2 k2, .slice a3 n3 k3, .slice a4 n4 k4]]) (caps := []) (by
      have e0 := keep_p X.out.2.2 PW.out.later
      simp only [RepVs, Md.hd, Md.tl]
      exact ⟨_, _, [], [], rfl, rfl, e0, rfl, rfl⟩) rfl hFC
    have YY : AsideQ ((if eqZ dk 2 = true then (getI (acts c) da).bind fun z => longL da dn (modsOf z).length 0 c else if eqZ dk 3 = true then (getStp c da).bind fun l => (FR (l, dt, dn, ()) ()).map fun (r : List Stp × Unit) => setStp c da r.1 else some c).bind (fun o => (FP (o, ()) ()).bind fun k => if k.1 = true then some ((o, true, ()), ()) else some ((zPrj, false, ()), ())) = some y) := ⟨hy⟩
    clear XY hFC hy
    obtain ⟨c20, c21, c22, c23, c24⟩ := five_at E1.out.1
    go_wp2_with fail
    refine hcall.mono ?_
    rintro e w2 ⟨v, P2, T2, rfl, hp2, hr2, hn2, hb2⟩
    obtain ⟨q0, b1, m1, l1, b2, m2, l2, b3, m3, l3, b4, m4, l4, rfl⟩ := prj_slices hr2
    have hs2 := hp2.size
    have e2 : (w2.alloc (.cells #[.int .i64 q0, .slice b1 m1 l1, .slice b2 m2 l2, .slice b3 m3 l3, .slice b4 m4 l4] 35)).heap[w.heap.size + 1]? = some (.cells #[.int .i64 dk, .int .i64 da, .int .i64 dn, .int .i64 dt] 39 (0, 0)) := by
      have := E1.out.2.2.2.2
      rw [heap_alloc_old _ _ (by omega), hp2.block _ (by omega) (by simp)]
      exact E1.out.2.1
    have S0 : AsideQ (ApS Try.prog w1 P1 w2.heap.size c (.int .i64 q0) (.slice b1 m1 l1) (.slice b2 m2 l2) (.slice b3 m3 l3) (.slice b4 m4 l4) T2 (w2.alloc (.cells #[.int .i64 q0, .slice b1 m1 l1, .slice b2 m2 l2, .slice b3 m3 l3, .slice b4 m4 l4] 35)) P2) := ⟨ApS.start hp2 hr2 hn2 hb2⟩
    obtain ⟨d30, d31, d32, d33⟩ := four_at e2
    obtain ⟨c60, c61, c62, c63, c64⟩ := five_at (ApS.row S0.out)
    have hb62 : w1.heap.size ≤ w2.heap.size := hs2
    clear hp2 hr2 hn2 hb2 hcall hs2 c20 c21 c22 c23 c24 c40 c41 c42 c43 c44 f40 f41 f42 f43 f44
    obtain ⟨o, ho, hy⟩ := Option.bind_eq_some_iff.1 YY.out
    obtain ⟨⟨kk, uk⟩, hFP, hy⟩ := Option.bind_eq_some_iff.1 hy
    have HY : AsideQ (FP (o, ()) () = some (kk, uk) ∧ (if kk = true then some ((o, true, ()), ()) else some ((zPrj, false, ()), ())) = some y) := ⟨hFP, hy⟩
    clear YY hFP hy
    by_cases hk2 : dk = 2
    · have h2 : (getI (acts c) da).bind (fun z => longL da dn (modsOf z).length 0 c) = some o := by
        rw [if_pos (by rw [hk2]; rfl)] at ho
        exact ho
      clear ho
      obtain ⟨z, hz, hlg⟩ := Option.bind_eq_some_iff.1 h2
      clear h2
      obtain ⟨ba, na, ca, am, cm, hq1, ha0, ha1, hca, hmx⟩ := ApS.act S0.out hz
      injection hq1 with hq1 hq2 hq3
      subst hq1 hq2 hq3
      obtain ⟨ja, rfl⟩ : ∃ ja : Nat, da = (ja : Int) := ⟨da.toNat, by omega⟩
      simp only [Int.toNat_natCast] at hca
      have hja : ja < m1 := Int.ofNat_lt.1 ha1
      have HL : AsideQ (longL (ja : Int) dn (modsOf z).length 0 c = some o ∧ (modsOf z).length ≤ maxLen) := ⟨hlg, hmx⟩
      clear hz hlg hmx ha0 ha1
      generalize (modsOf z).length = nm at *
      subst hk2
      go_wp2
      clear d30 d31 d32 d33 c60 c61 c62 c63 c64
      generalize w2.alloc (.cells #[.int .i64 q0, .slice (some ⟨ba, 0, none⟩) m1 l1, .slice b2 m2 l2, .slice b3 m3 l3, .slice b4 m4 l4] 35) = w3 at *
      have CA : AsideQ (w3.cell? ⟨ba, ja * 3 + 2, none⟩ = some (.slice am nm cm)) := ⟨hca⟩
      clear hca
      go_loopg [28] nm (fun k s28 wr => ∃ (i : Nat) (x : Prj) (Pr : Prot), s28 = .int .i64 (i : Int) ∧ AsideQ (i + k = nm ∧ longL (ja : Int) dn k i x = some o ∧ ApS Try.prog w1 P1 w2.heap.size x (.int .i64 q0) (.slice (some ⟨ba, 0, none⟩) m1 l1) (.slice b2 m2 l2) (.slice b3 m3 l3) (.slice b4 m4 l4) T2 wr Pr ∧ wr.cell? ⟨ba, ja * 3 + 2, none⟩ = some (.slice am nm cm)))
      case atStart => exact ⟨0, c, P2, rfl, ⟨by omega, HL.out.1, S0.out, CA.out⟩⟩
      case round =>
        clear S0 CA
        obtain ⟨i, x, Pr, rfl, Y⟩ := hrel
        cases gk with
        | zero =>
          have hi : i = nm := by have := Y.out.1; omega
          have hx : o = x := (Option.some.inj Y.out.2.1).symm
          subst hi
          subst hx
          have S : AsideQ (ApS Try.prog w1 P1 w2.heap.size o (.int .i64 q0) (.slice (some ⟨ba, 0, none⟩) m1 l1) (.slice b2 m2 l2) (.slice b3 m3 l3) (.slice b4 m4 l4) T2 wr Pr) := ⟨Y.out.2.2.1⟩
          obtain ⟨c60, c61, c62, c63, c64⟩ := five_at (ApS.row S.out)
          have hni : ¬ (i < i) := Nat.lt_irrefl i
          go_wp2_with fail
          refine (ok_call SG.out.2.2 (X.out.1.later PW.out.later) S.out HY.out.1).mono ?_
          rintro e wz ⟨Pz, rfl, Sz⟩
          have SZ : AsideQ (ApS Try.prog w1 P1 w2.heap.size o (.int .i64 q0) (.slice (some ⟨ba, 0, none⟩) m1 l1) (.slice b2 m2 l2) (.slice b3 m3 l3) (.slice b4 m4 l4) T2 wz Pz) := ⟨Sz⟩
          have R4 : AsideQ (wz.heap[w.heap.size + 1 + 1]? = some (.cells #[.int .i64 0, .slice none 0 0, .slice none 0 0, .slice none 0 0, .slice none 0 0] 35 (0, 0)) ∧ ∀ o, ¬ Pz (w.heap.size + 1 + 1) o) := ⟨(ApS.ret Sz PW.out E1.out.2.2.2.2 (by omega) E1.out.2.2.2.1 E1.out.2.2.1).1, free_later Sz.ext E1.out.2.2.2.2 E1.out.2.2.2.1⟩
          obtain ⟨z40, z41, z42, z43, z44⟩ := five_at R4.out.1
          obtain ⟨y40, y41, y42, y43, y44⟩ := five_fr R4.out.1
          obtain ⟨z60, z61, z62, z63, z64⟩ := five_at (ApS.row Sz)
          clear Sz S
          cases kk with
          | false =>
            go_wp2
            (try simp only [Exit.inBlock, Exit.then])
            have hy := Option.some.inj (show some ((zPrj, false, ()), ()) = some y from HY.out.2)
            subst hy
            exact Try.zero_post (PW.out.trans0 SZ.out.ext) (by omega) R4.out.2 R4.out.1 rfl rfl rfl
          | true =>
            go_wp2
            (try simp only [Exit.inBlock, Exit.then])
            have hy := Option.some.inj (show some ((o, true, ()), ()) = some y from HY.out.2)
            subst hy
            exact Try.ap_post SZ.out PW.out E1.out.2.2.2.2 (by omega) E1.out.2.2.2.1 E1.out.2.2.1 rfl rfl rfl
        | succ k =>
          have hi : i < nm := by have := Y.out.1; omega
          obtain ⟨m, hg, hlg⟩ := Option.bind_eq_some_iff.1 (show (getDur x (ja : Int) (i : Int)).bind (fun m => longL (ja : Int) dn k (i + 1) (setDur x (ja : Int) (i : Int) (if 12 < IntKind.i64.wrap (m + dn) then 12 else IntKind.i64.wrap (m + dn)))) = some o from Y.out.2.1)
          obtain ⟨ba', na', ca', bm, nm', cm', hq1, -, -, hcm, -, -, hcd, hfd, hbmT, hbaT, -⟩ := ApS.dur Y.out.2.2.1 hg
          injection hq1 with hq1 hq2 hq3
          injection hq1 with hq1
          injection hq1 with hq1
          subst hq1 hq2 hq3
          simp only [Int.toNat_natCast] at hcm hcd hfd
          have hcc := hcm.symm.trans Y.out.2.2.2
          injection hcc with hcc
          injection hcc with hc1 hc2 hc3
          subst hc1 hc2 hc3
          obtain ⟨g1, f1, h1, g2, f2, h2, hcd1, hcd2⟩ := ApS.mod Y.out.2.2.1 hg rfl (by simpa using hcm)
          simp only [Int.toNat_natCast] at hcd1 hcd2
          have e3 : wr.heap[w.heap.size + 1]? = some (.cells #[.int .i64 2, .int .i64 ja, .int .i64 dn, .int .i64 dt] 39 (0, 0)) := by
            have := E1.out.2.2.2.2
            rw [Y.out.2.2.1.ext.block _ (by omega) (by simp)]
            exact E1.out.2.1
          obtain ⟨d30, d31, d32, d33⟩ := four_at e3
          obtain ⟨c60, c61, c62, c63, c64⟩ := five_at (ApS.row Y.out.2.2.1)
          have HB : AsideQ (bm ∈ T2 ∧ longL (ja : Int) dn k (i + 1) (setDur x (ja : Int) (i : Int) (if 12 < IntKind.i64.wrap (m + dn) then 12 else IntKind.i64.wrap (m + dn))) = some o ∧ getDur x (ja : Int) (i : Int) = some m ∧ wr.heap[w.heap.size + 1]? = some (.cells #[.int .i64 2, .int .i64 ja, .int .i64 dn, .int .i64 dt] 39 (0, 0)) ∧ wr.cell? ⟨ba, ja * 3 + 2, none⟩ = some (.slice (some ⟨bm, 0, none⟩) nm' cm')) := ⟨hbmT, hlg, hg, e3, hcm⟩
          clear hbmT hlg hg e3 hbaT
          go_wp2
          have SA : AsideQ (ApS Try.prog w1 P1 w2.heap.size x (.int .i64 q0) (.slice (some ⟨ba, 0, none⟩) m1 l1) (.slice b2 m2 l2) (.slice b3 m3 l3) (.slice b4 m4 l4) T2 (wr.alloc (.cells #[.int .i64 m, .slice g1 f1 h1, .slice g2 f2 h2] 54)) Pr) := ⟨ApS.alloc Y.out.2.2.1 _⟩
          have HA : AsideQ ((wr.alloc (.cells #[.int .i64 m, .slice g1 f1 h1, .slice g2 f2 h2] 54)).cell? ⟨ba, ja * 3 + 2, none⟩ = some (.slice (some ⟨bm, 0, none⟩) nm' cm') ∧ (wr.alloc (.cells #[.int .i64 m, .slice g1 f1 h1, .slice g2 f2 h2] 54)).heap[wr.heap.size]? = some (.cells #[.int .i64 m, .slice g1 f1 h1, .slice g2 f2 h2] 54 (0, 0)) ∧ bm < wr.heap.size) :=
            ⟨by rw [World.cell?_alloc_past _ _ _ (World.block_lt_of_cell? wr ⟨ba, ja * 3 + 2, none⟩ HB.out.2.2.2.2)]; exact HB.out.2.2.2.2, heap_alloc_new _ _, (ApS.bd Y.out.2.2.1 bm HB.out.1).2⟩
          clear hcd hcd1 hcd2 hfd hcm d30 d31 d32 d33 c60 c61 c62 c63 c64
          generalize wr.alloc (.cells #[.int .i64 m, .slice g1 f1 h1, .slice g2 f2 h2] 54) = wx at *
          generalize wr.heap.size = b8 at *
          have hsx : ∃ n : Int, True := ⟨0, trivial⟩
          obtain ⟨ba', na', ca', bm', nm2, cm2, hq1, -, -, hcm, -, -, hcd, hfd, -, -, hset⟩ := ApS.dur (ApS.drew SA.out) HB.out.2.2.1
          injection hq1 with hq1 hq2 hq3
          injection hq1 with hq1
          injection hq1 with hq1
          subst hq1 hq2 hq3
          simp only [Int.toNat_natCast] at hcm hcd hfd hset
          have hcc := hcm.symm.trans (show wx.drew.cell? ⟨ba, ja * 3 + 2, none⟩ = _ from HA.out.1)
          injection hcc with hcc
          injection hcc with hc1 hc2 hc3
          injection hc1 with hc1
          injection hc1 with hc1
          subst hc1 hc2 hc3
          have e3 : wx.drew.heap[w.heap.size + 1]? = some (.cells #[.int .i64 2, .int .i64 ja, .int .i64 dn, .int .i64 dt] 39 (0, 0)) := by
            have := E1.out.2.2.2.2
            rw [(ApS.drew SA.out).ext.block _ (by omega) (by simp)]
            exact E1.out.2.1
          have hS0 : (wx.drew.cell? ⟨w2.heap.size, 1, none⟩ = some (.slice (some ⟨ba, 0, none⟩) m1 l1)) ∧ (wx.drew.cell? ⟨w.heap.size + 1, 1, none⟩ = some (.int .i64 (ja : Int)) ∧ wx.drew.cell? ⟨w.heap.size + 1, 2, none⟩ = some (.int .i64 dn)) ∧ wx.drew.cell? ⟨ba, ja * 3 + 2, none⟩ = some (.slice (some ⟨bm', 0, none⟩) nm2 cm2) ∧ wx.drew.cell? ⟨b8, 0, none⟩ = some (.int .i64 m) := by
            obtain ⟨d30, d31, d32, d33⟩ := four_at e3
            obtain ⟨c60, c61, c62, c63, c64⟩ := five_at (ApS.row (ApS.drew SA.out))
            exact ⟨c61, ⟨d31, d32⟩, hcm, by rw [cell_of (show wx.drew.heap[b8]? = _ from HA.out.2.1)]; rfl⟩
          have hS1 : ∀ v : Value, ((wx.drew.setCell ⟨bm', i * 3, none⟩ v).cell? ⟨w2.heap.size, 1, none⟩ = some (.slice (some ⟨ba, 0, none⟩) m1 l1)) ∧ ((wx.drew.setCell ⟨bm', i * 3, none⟩ v).cell? ⟨w.heap.size + 1, 1, none⟩ = some (.int .i64 (ja : Int)) ∧ (wx.drew.setCell ⟨bm', i * 3, none⟩ v).cell? ⟨w.heap.size + 1, 2, none⟩ = some (.int .i64 dn)) ∧ (wx.drew.setCell ⟨bm', i * 3, none⟩ v).cell? ⟨ba, ja * 3 + 2, none⟩ = some (.slice (some ⟨bm', 0, none⟩) nm2 cm2) ∧ (wx.drew.setCell ⟨bm', i * 3, none⟩ v).cell? ⟨b8, 0, none⟩ = some (.int .i64 m) := fun v => by
            have n1 : (⟨bm', i * 3, none⟩ : Addr) ≠ ⟨w2.heap.size, 1, none⟩ := fun e => by
              injection e with e
              exact (ApS.out SA.out) (e ▸ HB.out.1)
            have n2 : ∀ o, (⟨bm', i * 3, none⟩ : Addr) ≠ ⟨w.heap.size + 1, o, none⟩ := fun o e => by
              injection e with e
              have h1 := (ApS.bd SA.out bm' HB.out.1).1
              have h2 := E1.out.2.2.2.2
              omega
            have n3 : (⟨bm', i * 3, none⟩ : Addr) ≠ ⟨ba, ja * 3 + 2, none⟩ := fun e => by
              rw [e, hcm] at hcd
              cases hcd
            have n4 : (⟨bm', i * 3, none⟩ : Addr) ≠ ⟨b8, 0, none⟩ := fun e => by
              injection e with e
              have h1 := HA.out.2.2
              omega
            refine ⟨?_, ⟨?_, ?_⟩, ?_, ?_⟩
            · rw [World.cell?_setCell_other _ _ _ _ n1]; exact hS0.1
            · rw [World.cell?_setCell_other _ _ _ _ (n2 _)]; exact hS0.2.1.1
            · rw [World.cell?_setCell_other _ _ _ _ (n2 _)]; exact hS0.2.1.2
            · rw [World.cell?_setCell_other _ _ _ _ n3]; exact hS0.2.2.1
            · rw [World.cell?_setCell_other _ _ _ _ n4]; exact hS0.2.2.2
          have HS : AsideQ (∀ (v : Int), ApS Try.prog w1 P1 w2.heap.size (setDur x (ja : Int) (i : Int) v) (.int .i64 q0) (.slice (some ⟨ba, 0, none⟩) m1 l1) (.slice b2 m2 l2) (.slice b3 m3 l3) (.slice b4 m4 l4) T2 (wx.drew.setCell ⟨bm', i * 3, none⟩ (.int .i64 v)) Pr) := ⟨hset⟩
          have HK : AsideQ (∀ v : Value, (wx.drew.setCell ⟨bm', i * 3, none⟩ v).cell? ⟨ba, ja * 3 + 2, none⟩ = some (.slice (some ⟨bm', 0, none⟩) nm2 cm2)) := ⟨fun v => (hS1 v).2.2.1⟩
          clear hset e3 hcm
          go_region_held (fun w' => (w'.cell? ⟨w2.heap.size, 1, none⟩ = some (.slice (some ⟨ba, 0, none⟩) m1 l1)) ∧ (w'.cell? ⟨w.heap.size + 1, 1, none⟩ = some (.int .i64 (ja : Int)) ∧ w'.cell? ⟨w.heap.size + 1, 2, none⟩ = some (.int .i64 dn)) ∧ w'.cell? ⟨ba, ja * 3 + 2, none⟩ = some (.slice (some ⟨bm', 0, none⟩) nm2 cm2) ∧ w'.cell? ⟨b8, 0, none⟩ = some (.int .i64 m)) (first | exact hS1 _ | exact hS0) (fail)
          clear hS0 hS1
          rename_i hHeld
          clear hHeld
          have hiw : RowKit.wrap64 ((i : Int) + 1) = ((i + 1 : Nat) : Int) := by
            have := HL.out.2
            unfold maxLen at this
            unfold RowKit.wrap64
            omega
          have IW : AsideQ (RowKit.wrap64 ((i : Int) + 1) = ((i + 1 : Nat) : Int)) := ⟨hiw⟩
          clear hiw
          generalize (if 12 < IntKind.i64.wrap (m + dn) then 12 else IntKind.i64.wrap (m + dn)) = nn at HB ⊢
          go_wp2
          go_roundg k
          case measure => omega
          case rel =>
            exact ⟨i + 1, _, Pr, by rw [IW.out], ⟨by have := Y.out.1; omega, HB.out.2.1, HS.out _, HK.out _⟩⟩
    · have e2 : eqZ dk 2 = false := by simp [eqZ, hk2]
      rw [if_neg (by rw [e2]; exact Bool.false_ne_true)] at ho
      by_cases hk3 : dk = 3
      · have h3 : (getStp c da).bind (fun l => (FR (l, dt, dn, ()) ()).map fun (r : List Stp × Unit) => setStp c da r.1) = some o := by
          rw [if_pos (by rw [hk3]; rfl)] at ho
          exact ho
        clear ho e2
        obtain ⟨l, hl, hm⟩ := Option.bind_eq_some_iff.1 h3
        obtain ⟨⟨r', ur⟩, hFR, hoo⟩ := Option.map_eq_some_iff.1 hm
        clear h3 hm
        obtain ⟨br, nr, cr, ax, nx, cx, hq3, ha0, ha1, hcs, hfs, hbr, -, -⟩ := ApS.stp S0.out hl
        injection hq3 with hq1 hq2 hq3
        subst hq1 hq2 hq3
        obtain ⟨ja, rfl⟩ : ∃ ja : Nat, da = (ja : Int) := ⟨da.toNat, by omega⟩
        simp only [Int.toNat_natCast] at hcs hfs
        have hja : ja < m3 := Int.ofNat_lt.1 ha1
        have HL : AsideQ (getStp c (ja : Int) = some l ∧ FR (l, dt, dn, ()) () = some (r', ur) ∧ setStp c (ja : Int) r' = o ∧ br ∈ T2) := ⟨hl, hFR, hoo, hbr⟩
        clear hl hFR hoo hbr ha0 ha1
        subst hk3
        go_wp2
        generalize w2.alloc (.cells #[.int .i64 q0, .slice b1 m1 l1, .slice b2 m2 l2, .slice (some ⟨br, 0, none⟩) m3 l3, .slice b4 m4 l4] 35) = w3 at *
        have SP : ∀ xz Tz wz Pz, ApS Try.prog w1 P1 w2.heap.size xz (.int .i64 q0) (.slice b1 m1 l1) (.slice b2 m2 l2) (.slice (some ⟨br, 0, none⟩) m3 l3) (.slice b4 m4 l4) Tz wz Pz → (wz.cell? ⟨w2.heap.size, 3, none⟩ = some (.slice (some ⟨br, 0, none⟩) m3 l3)) ∧ (wz.cell? ⟨w.heap.size + 1, 1, none⟩ = some (.int .i64 (ja : Int)) ∧ wz.cell? ⟨w.heap.size + 1, 2, none⟩ = some (.int .i64 dn) ∧ wz.cell? ⟨w.heap.size + 1, 3, none⟩ = some (.int .i64 dt)) := fun xz Tz wz Pz hz => by
          have e3 : wz.heap[w.heap.size + 1]? = some (.cells #[.int .i64 3, .int .i64 ja, .int .i64 dn, .int .i64 dt] 39 (0, 0)) := by
            have := E1.out.2.2.2.2
            rw [hz.ext.block _ (by omega) (by simp)]
            exact E1.out.2.1
          obtain ⟨d30, d31, d32, d33⟩ := four_at e3
          obtain ⟨c60, c61, c62, c63, c64⟩ := five_at (ApS.row hz)
          exact ⟨c63, d31, d32, d33⟩
        have CR := red_call SG.out.2.1 (X.out.1.later PW.out.later) (ApS.drew S0.out) HL.out.1 rfl (show w3.drew.cell? ⟨br, (ja : Int).toNat * 2, none⟩ = some (.slice ax nx cx) from by simpa using hcs) HL.out.2.1
        have hS0 := SP c T2 w3.drew P2 (ApS.drew S0.out)
        clear d30 d31 d32 d33 c60 c61 c62 c63 c64 hfs
        have hk32 : ¬ ((3 : Int) = 2) := by decide
        refine wp_region_held_drew (S := fun w' => (w'.cell? ⟨w2.heap.size, 3, none⟩ = some (.slice (some ⟨br, 0, none⟩) m3 l3)) ∧ (w'.cell? ⟨w.heap.size + 1, 1, none⟩ = some (.int .i64 (ja : Int)) ∧ w'.cell? ⟨w.heap.size + 1, 2, none⟩ = some (.int .i64 dn) ∧ w'.cell? ⟨w.heap.size + 1, 3, none⟩ = some (.int .i64 dt))) (by kernel_rfl) hS0 (fun hHeld => ?_)
        refine wpAnyH_take (i := 0) (v := ?_) rfl (by kernel_rfl) (by kernel_rfl) (by kernel_rfl) (fun _ _ _ h => h) (Or.inl ⟨by rfl, ?_⟩) hHeld ?_
        rotate_left
        · intro w hSw; (try dsimp only at hSw); go_simp; try with_reducible rfl
        try simp only [Act.put, List.setIfInBounds_toArray, List.set_cons_zero, List.set_cons_succ]
        refine wpAnyH_take (i := 1) (v := ?_) rfl (by kernel_rfl) (by kernel_rfl) (by kernel_rfl) (fun _ _ _ h => h) (Or.inl ⟨by rfl, ?_⟩) hHeld ?_
        rotate_left
        · intro w hSw; (try dsimp only at hSw); go_simp; try with_reducible rfl
        try simp only [Act.put, List.setIfInBounds_toArray, List.set_cons_zero, List.set_cons_succ]
        refine wpAnyH_take (i := 2) (v := ?_) rfl (by kernel_rfl) (by kernel_rfl) (by kernel_rfl) (fun _ _ _ h => h) (Or.inl ⟨by rfl, ?_⟩) hHeld ?_
        rotate_left
        · intro w hSw; (try dsimp only at hSw); go_simp; try with_reducible rfl
        try simp only [Act.put, List.setIfInBounds_toArray, List.set_cons_zero, List.set_cons_succ]
        refine wpAnyH_take (i := 3) (v := ?_) rfl (by kernel_rfl) (by kernel_rfl) (by kernel_rfl) (fun _ _ _ h => h) (Or.inl ⟨by rfl, ?_⟩) hHeld ?_
        rotate_left
        · intro w hSw; (try dsimp only at hSw); go_simp; try with_reducible rfl
        try simp only [Act.put, List.setIfInBounds_toArray, List.set_cons_zero, List.set_cons_succ]
        refine wpAnyH_take (i := 4) (v := ?_) rfl (by kernel_rfl) (by kernel_rfl) (by kernel_rfl) (fun _ _ _ h => h) (Or.inl ⟨by rfl, ?_⟩) hHeld ?_
        rotate_left
        · intro w hSw; (try dsimp only at hSw); go_simp; try with_reducible rfl
        try simp only [Act.put, List.setIfInBounds_toArray, List.set_cons_zero, List.set_cons_succ]
        refine wpAnyH_take (i := 5) (v := ?_) rfl (by kernel_rfl) (by kernel_rfl) (by kernel_rfl) (fun _ _ _ h => h) (Or.inl ⟨by rfl, ?_⟩) hHeld ?_
        rotate_left
        · intro w hSw; (try dsimp only at hSw); go_simp; try with_reducible rfl
        try simp only [Act.put, List.setIfInBounds_toArray, List.set_cons_zero, List.set_cons_succ]
        refine wpAnyH_take (i := 6) (v := ?_) rfl (by kernel_rfl) (by kernel_rfl) (by kernel_rfl) (fun _ _ _ h => h) (Or.inl ⟨by rfl, ?_⟩) hHeld ?_
        rotate_left
        · intro w hSw; (try dsimp only at hSw); go_simp; try with_reducible rfl
        try simp only [Act.put, List.setIfInBounds_toArray, List.set_cons_zero, List.set_cons_succ]
        refine wpAnyH_take (i := 7) (v := ?_) rfl (by kernel_rfl) (by kernel_rfl) (by kernel_rfl) (fun _ _ _ h => h) (Or.inl ⟨by rfl, ?_⟩) hHeld ?_
        rotate_left
        · intro w hSw; (try dsimp only at hSw); go_simp; try with_reducible rfl
        try simp only [Act.put, List.setIfInBounds_toArray, List.set_cons_zero, List.set_cons_succ]
        refine wpAnyH_take (i := 8) (v := ?_) rfl (by kernel_rfl) (by kernel_rfl) (by kernel_rfl) (fun _ _ _ h => h) (Or.inl ⟨by rfl, ?_⟩) hHeld ?_
        rotate_left
        · intro w hSw; (try dsimp only at hSw); go_simp; try with_reducible rfl
        try simp only [Act.put, List.setIfInBounds_toArray, List.set_cons_zero, List.set_cons_succ]
        refine wpAnyH_take (i := 9) (v := ?_) rfl (by kernel_rfl) (by kernel_rfl) (by kernel_rfl) (fun _ _ _ h => h) (Or.inl ⟨by rfl, ?_⟩) hHeld ?_
        rotate_left
        · intro w hSw; (try dsimp only at hSw); go_simp; try with_reducible rfl
        try simp only [Act.put, List.setIfInBounds_toArray, List.set_cons_zero, List.set_cons_succ]
        refine wpAnyH_take (i := 11) (v := ?_) rfl (by kernel_rfl) (by kernel_rfl) (by kernel_rfl) (fun _ _ _ h => h) (Or.inl ⟨by rfl, ?_⟩) hHeld ?_
        rotate_left
        · intro w hSw; (try dsimp only at hSw); go_simp; try with_reducible rfl
        try simp only [Act.put, List.setIfInBounds_toArray, List.set_cons_zero, List.set_cons_succ]
        refine wpAnyH_take (i := 12) (v := ?_) rfl (by kernel_rfl) (by kernel_rfl) (by kernel_rfl) (fun _ _ _ h => h) (Or.inl ⟨by rfl, ?_⟩) hHeld ?_
        rotate_left
        · intro w hSw; (try dsimp only at hSw); go_simp; try with_reducible rfl
        try simp only [Act.put, List.setIfInBounds_toArray, List.set_cons_zero, List.set_cons_succ]
        refine wpAnyH_take (i := 13) (v := ?_) rfl (by kernel_rfl) (by kernel_rfl) (by kernel_rfl) (fun _ _ _ h => h) (Or.inl ⟨by rfl, ?_⟩) hHeld ?_
        rotate_left
        · intro w hSw; (try dsimp only at hSw); go_simp; try with_reducible rfl
        try simp only [Act.put, List.setIfInBounds_toArray, List.set_cons_zero, List.set_cons_succ]
        refine wpAnyH_take (i := 14) (v := ?_) rfl (by kernel_rfl) (by kernel_rfl) (by kernel_rfl) (fun _ _ _ h => h) (Or.inl ⟨by rfl, ?_⟩) hHeld ?_
        rotate_left
        · intro w hSw; (try dsimp only at hSw); go_simp; try with_reducible rfl
        try simp only [Act.put, List.setIfInBounds_toArray, List.set_cons_zero, List.set_cons_succ]
        refine wpAnyH_ready (rs := [10]) (by kernel_rfl) (by simp) ?_
        refine AllReadyH.cons rfl (fun K hK => ?_) AllReadyH.nil
        go_simp
        refine hK.out _ _ hS0 (fun hHeld => ?_)
        clear hK K
        try simp only [Act.put, List.setIfInBounds_toArray, List.set_cons_zero, List.set_cons_succ]
        refine wpAnyH_ready (rs := [15]) (by kernel_rfl) (by simp) ?_
        refine AllReadyH.cons rfl (fun K hK => ?_) AllReadyH.nil
        go_simp
        go_wp2_with (go_at_call 27; refine CR.mono ?_; rintro e w6 ⟨P6, T6, au, nu, cu, rfl, A6, r6, n6, b6⟩)
        refine hK.out _ _ (SP _ _ _ _ A6) (fun hHeld => ?_)
        clear hK K
        try simp only [Act.put, List.setIfInBounds_toArray, List.set_cons_zero, List.set_cons_succ]
        obtain ⟨br', nr', cr', a6, n6', c6, hq1, -, -, hc6, hf6, hbr6, -, hset⟩ := ApS.stp A6 HL.out.1
        injection hq1 with hq1 hq2 hq3
        injection hq1 with hq1
        injection hq1 with hq1
        subst hq1 hq2 hq3
        simp only [Int.toNat_natCast] at hc6 hf6 hset
        obtain ⟨T7, A7⟩ := hset r' (.slice au nu cu) T6 r6 n6 (fun b hb => by
          have h1 := b6 b hb
          have h2 : w3.drew.heap.size = w3.heap.size := rfl
          have h3 := (ApS.ext S0.out).size
          refine ⟨by omega, h1.2, fun hm => ?_, fun e => ?_⟩
          · have := (ApS.bd S0.out b hm).2
            omega
          · have := ApS.lt S0.out
            omega)
        rw [HL.out.2.2.1] at A7
        have S : AsideQ (ApS Try.prog w1 P1 w2.heap.size o (.int .i64 q0) (.slice b1 m1 l1) (.slice b2 m2 l2) (.slice (some ⟨br, 0, none⟩) m3 l3) (.slice b4 m4 l4) T7 (w6.setCell ⟨br, ja * 2, none⟩ (.slice au nu cu)) P6) := ⟨A7⟩
        have hS7 := SP _ _ _ _ A7
        clear A7 hset A6 r6 n6 b6 CR
        refine wpAnyH_take (i := 16) (v := ?_) rfl (by kernel_rfl) (by kernel_rfl) (by kernel_rfl) (fun _ _ _ h => h) (Or.inl ⟨by rfl, ?_⟩) hHeld ?_
        rotate_left
        · intro w hSw; (try dsimp only at hSw); go_simp; try with_reducible rfl
        try simp only [Act.put, List.setIfInBounds_toArray, List.set_cons_zero, List.set_cons_succ]
        refine wpAnyH_take (i := 17) (v := ?_) rfl (by kernel_rfl) (by kernel_rfl) (by kernel_rfl) (fun _ _ _ h => h) (Or.inl ⟨by rfl, ?_⟩) hHeld ?_
        rotate_left
        · intro w hSw; (try dsimp only at hSw); go_simp; try with_reducible rfl
        try simp only [Act.put, List.setIfInBounds_toArray, List.set_cons_zero, List.set_cons_succ]
        refine wpAnyH_ready (rs := [18]) (by kernel_rfl) (by simp) ?_
        refine AllReadyH.cons rfl (fun K hK => ?_) AllReadyH.nil
        go_simp
        refine hK.out _ _ hS7 (fun hHeld => ?_)
        clear hK K
        try simp only [Act.put, List.setIfInBounds_toArray, List.set_cons_zero, List.set_cons_succ]
        refine wpAnyH_done (by kernel_rfl) ?_ _
        clear hHeld hS7 hS0 SP hc6 hf6
        generalize w6.setCell ⟨br, ja * 2, none⟩ (.slice au nu cu) = w7 at *
        obtain ⟨c60, c61, c62, c63, c64⟩ := five_at (ApS.row S.out)
        go_wp2_with fail
        refine (ok_call SG.out.2.2 (X.out.1.later PW.out.later) S.out HY.out.1).mono ?_
        rintro e wz ⟨Pz, rfl, Sz⟩
        have SZ : AsideQ (ApS Try.prog w1 P1 w2.heap.size o (.int .i64 q0) (.slice b1 m1 l1) (.slice b2 m2 l2) (.slice (some ⟨br, 0, none⟩) m3 l3) (.slice b4 m4 l4) T7 wz Pz) := ⟨Sz⟩
        have R4 : AsideQ (wz.heap[w.heap.size + 1 + 1]? = some (.cells #[.int .i64 0, .slice none 0 0, .slice none 0 0, .slice none 0 0, .slice none 0 0] 35 (0, 0)) ∧ ∀ o, ¬ Pz (w.heap.size + 1 + 1) o) := ⟨(ApS.ret Sz PW.out E1.out.2.2.2.2 (by omega) E1.out.2.2.2.1 E1.out.2.2.1).1, free_later Sz.ext E1.out.2.2.2.2 E1.out.2.2.2.1⟩
        obtain ⟨z40, z41, z42, z43, z44⟩ := five_at R4.out.1
        obtain ⟨y40, y41, y42, y43, y44⟩ := five_fr R4.out.1
        obtain ⟨z60, z61, z62, z63, z64⟩ := five_at (ApS.row Sz)
        clear Sz S
        cases kk with
        | false =>
          go_wp2
          (try simp only [Exit.inBlock, Exit.then])
          have hy := Option.some.inj (show some ((zPrj, false, ()), ()) = some y from HY.out.2)
          subst hy
          exact Try.zero_post (PW.out.trans0 SZ.out.ext) (by omega) R4.out.2 R4.out.1 rfl rfl rfl
        | true =>
          go_wp2
          (try simp only [Exit.inBlock, Exit.then])
          have hy := Option.some.inj (show some ((o, true, ()), ()) = some y from HY.out.2)
          subst hy
          exact Try.ap_post SZ.out PW.out E1.out.2.2.2.2 (by omega) E1.out.2.2.2.1 E1.out.2.2.1 rfl rfl rfl
      · have e3 : eqZ dk 3 = false := by simp [eqZ, hk3]
        rw [if_neg (by rw [e3]; exact Bool.false_ne_true)] at ho
        have ho := (Option.some.inj ho).symm
        subst ho
        clear e2 e3
        go_wp2_with fail
        have S := S0
        clear S0 d30 d31 d32 d33 c60 c61 c62 c63 c64
        generalize w2.alloc (.cells #[.int .i64 q0, .slice b1 m1 l1, .slice b2 m2 l2, .slice b3 m3 l3, .slice b4 m4 l4] 35) = wr at *
        refine (ok_call SG.out.2.2 (X.out.1.later PW.out.later) S.out HY.out.1).mono ?_
        rintro e wz ⟨Pz, rfl, Sz⟩
        have SZ : AsideQ (ApS Try.prog w1 P1 w2.heap.size o (.int .i64 q0) (.slice b1 m1 l1) (.slice b2 m2 l2) (.slice b3 m3 l3) (.slice b4 m4 l4) T2 wz Pz) := ⟨Sz⟩
        have R4 : AsideQ (wz.heap[w.heap.size + 1 + 1]? = some (.cells #[.int .i64 0, .slice none 0 0, .slice none 0 0, .slice none 0 0, .slice none 0 0] 35 (0, 0)) ∧ ∀ o, ¬ Pz (w.heap.size + 1 + 1) o) := ⟨(ApS.ret Sz PW.out E1.out.2.2.2.2 (by omega) E1.out.2.2.2.1 E1.out.2.2.1).1, free_later Sz.ext E1.out.2.2.2.2 E1.out.2.2.2.1⟩
        obtain ⟨z40, z41, z42, z43, z44⟩ := five_at R4.out.1
        obtain ⟨y40, y41, y42, y43, y44⟩ := five_fr R4.out.1
        obtain ⟨z60, z61, z62, z63, z64⟩ := five_at (ApS.row Sz)
        clear Sz S
        cases kk with
        | false =>
          go_wp2
          (try simp only [Exit.inBlock, Exit.then])
          have hy := Option.some.inj (show some ((zPrj, false, ()), ()) = some y from HY.out.2)
          subst hy
          exact Try.zero_post (PW.out.trans0 SZ.out.ext) (by omega) R4.out.2 R4.out.1 rfl rfl rfl
        | true =>
          go_wp2
          (try simp only [Exit.inBlock, Exit.then])
          have hy := Option.some.inj (show some ((o, true, ()), ()) = some y from HY.out.2)
          subst hy
          exact Try.ap_post SZ.out PW.out E1.out.2.2.2.2 (by omega) E1.out.2.2.2.1 E1.out.2.2.1 rfl rfl rfl
end Go.Proofs
