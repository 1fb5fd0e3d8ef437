/-
  The walk of impl.BestSchedule over the claims of the functions that it calls: its result is an element of the list, memory of its own. No condition.
-/
import Derived.Test.YtjgmjljdhgfdhaaGreatN41
import Derived.Test.YtjgmjljdhgfdhaaGreatProg
import Derived.KernelRfl
import Derived.WalkKit
import Derived.WalkSpells
import Derived.WalkLawsBesides
import Derived.Deep.QuietTactic
import Derived.Deep.LoopGhost
import Derived.Deep.RegionHeld2
import Derived.BigQuiet
import Derived.ProofKit
import Derived.OpenShut
import Derived.Lib.Hide
namespace Go.Proofs
set_option linter.unusedVariables false
open Go.RowKit Go.Abs
abbrev schT : Ty := .st [.sl 3 (.int .i64), .sl 3 (.int .i64)]
abbrev Sch : Type := List Int × List Int × Unit
abbrev schM : Md := .s (.u .p) (.s (.u .p) .p)
def bestL (g : Sch → Option Int) : List Sch → Sch → Bool → Option (Sch × Bool)
  | [], b, f => some (b, f)
  | s :: l, b, false => bestL g l s true
  | s :: l, b, true => (g s).bind fun n => (g b).bind fun k => if n < k then bestL g l s true else bestL g l b true
def bestF {ts : List Ty} (FA : Ty.dens [.st ts, .int .i64] → Unit → Option (List Sch × Unit)) (FM : Ty.dens [.st ts, schT] → Unit → Option (Int × Unit)) : Ty.dens [.st ts, .int .i64] → Unit → Option ((Sch × Bool × Unit) × Unit) := fun x _ =>
  (FA x ()).bind fun ys => (bestL (fun s => (FM (x.1, s, ()) ()).map (·.1)) ys.1 ([], [], ()) false).map fun r => ((r.1, r.2, ()), ())
/-- what the variable holds: nothing yet, or an element of the list -/
def BestV (ss : List Sch) (cells : List Value) (b : Sch) (f : Bool) (v0 v1 : Value) : Prop :=
  (f = false ∧ b = ([], [], ()) ∧ v0 = .slice none 0 0 ∧ v1 = .slice none 0 0) ∨ (f = true ∧ ∃ i, ss[i]? = some b ∧ cells[i * 2]? = some v0 ∧ cells[i * 2 + 1]? = some v1)
theorem two_cells {cells : List Value} {i : Nat} {v0 v1 : Value} (h0 : cells[i * 2]? = some v0) (h1 : cells[i * 2 + 1]? = some v1) : (cells.drop (i * 2)).take 2 = [v0, v1] := by
  apply List.ext_getElem?
  intro j
  match j with
  | 0 => simp [h0]
  | 1 => simp [h1]
  | j + 2 => simp [List.getElem?_take]; omega
theorem bestV_rep {M : Program} {w : World} {P : Prot} {ss : List Sch} {cells : List Value} {Tc : List Nat} {b : Sch} {f : Bool} {v0 v1 : Value} (h : BestV ss cells b f v0 v1) (hL : RepL (RepC M schT w P schM) ss cells Tc) :
    ∃ T, RepV M schT w P schM b (.agg #[v0, v1]) T ∧ List.Sublist T Tc := by
  rcases h with ⟨-, rfl, rfl, rfl⟩ | ⟨-, i, h1, h2, h3⟩
  · refine ⟨[], ?_, List.nil_sublist _⟩
    simp only [RepV, RepCs, RepC, RepSl, Md.hd, Md.tl]
    exact ⟨[.slice none 0 0, .slice none 0 0], rfl, [.slice none 0 0], [.slice none 0 0], [], [], rfl, rfl, ⟨_, rfl, .inl ⟨rfl, rfl, rfl⟩⟩, [.slice none 0 0], [], [], [], rfl, rfl, ⟨_, rfl, .inl ⟨rfl, rfl, rfl⟩⟩, rfl, rfl⟩
  · obtain ⟨T, hr, hs, _⟩ := repL_at (size := 2) (fun x cs T r => (RepC.length schT r).1) hL h1
    rw [two_cells h2 h3] at hr
    exact ⟨T, RepV_of_RepC schT hr, hs⟩
theorem elem_cells {M : Program} {w : World} {P : Prot} {ss : List Sch} {cells : List Value} {Tc : List Nat} (hL : RepL (RepC M schT w P schM) ss cells Tc) {j : Nat} {s : Sch} (hj : ss[j]? = some s) :
    ∃ y0 m0 l0 y1 m1 l1, cells[j * 2]? = some (.slice y0 m0 l0) ∧ cells[j * 2 + 1]? = some (.slice y1 m1 l1) := by
  obtain ⟨T, hr, -, hlen⟩ := repL_at (size := 2) (fun x cs T r => (RepC.length schT r).1) hL hj
  have h0 : cells[j * 2]? = ((cells.drop (j * 2)).take 2)[0]? := by simp [List.getElem?_take]
  have h1 : cells[j * 2 + 1]? = ((cells.drop (j * 2)).take 2)[1]? := by simp [List.getElem?_take]
  rw [h0, h1]
  generalize (cells.drop (j * 2)).take 2 = cs at hr
  simp only [RepC, RepCs, Md.hd, Md.tl] at hr
  obtain ⟨c1, c2, T1, T2, rfl, rfl, ⟨v, rfl, hv⟩, c3, c4, T3, T4, rfl, rfl, ⟨u, rfl, hu⟩, rfl, rfl⟩ := hr
  have sl : ∀ {x : List Int} {v : Value} {T : List Nat}, RepSl (RepC M (.int .i64) w P) 3 1 w P (.u .p) x v T → ∃ a n c, v = .slice a n c := fun h => by
    rcases h with ⟨-, -, rfl⟩ | ⟨b, cap, cells, Tc, rfl, -⟩
    · exact ⟨_, _, _, rfl⟩
    · exact ⟨_, _, _, rfl⟩
  obtain ⟨y0, m0, l0, rfl⟩ := sl hv
  obtain ⟨y1, m1, l1, rfl⟩ := sl hu
  exact ⟨y0, m0, l0, y1, m1, l1, rfl, rfl⟩
theorem best_end {M : Program} {w w1 w2 wr : World} {P P1 Pr : Prot} {Tr Tc : List Nat} {ss : List Sch} {cells : List Value} {b : Sch} {f : Bool} {v0 v1 : Value} (ht : There w P) (hp2 : PExt [] w P w2 P) (hs : w2.heap.size = w.heap.size + 1 + 1 + 1) (hp1 : PExt [] w2 P w1 P1)
    (hL : RepL (RepC M schT w1 P1 schM) ss cells Tc) (hsub : List.Sublist Tc Tr) (hnd : Tr.Nodup) (hTr : ∀ b ∈ Tr, w2.heap.size ≤ b ∧ b < w1.heap.size) (hp : PExt [w.heap.size + 1 + 1] w1 P1 wr Pr) (hB : BestV ss cells b f v0 v1) :
    ∃ P' T, PExt [] w P ((wr.setCell ⟨w.heap.size + 1, 0, none⟩ v0).setCell ⟨w.heap.size + 1, 1, none⟩ v1) P' ∧
      RepV M (.tup [schT, .bool]) ((wr.setCell ⟨w.heap.size + 1, 0, none⟩ v0).setCell ⟨w.heap.size + 1, 1, none⟩ v1) P' (Ty.all (.tup [schT, .bool])) (b, f, ()) (.tuple #[.agg #[v0, v1], .bool f]) T ∧
      T.Nodup ∧ ∀ b ∈ T, w.heap.size ≤ b ∧ b < ((wr.setCell ⟨w.heap.size + 1, 0, none⟩ v0).setCell ⟨w.heap.size + 1, 1, none⟩ v1).heap.size := by
  have hn4 : ∀ o, ¬ Pr (w.heap.size + 1) o := fun o ho => by
    rcases hp.old _ _ ho with h | h | h
    · rcases hp1.old _ _ h with h | h | h
      · obtain ⟨v, hv⟩ := ht _ _ h
        have := World.block_lt_of_cell? w ⟨_, o, none⟩ hv
        simp at this
        omega
      · omega
      · simp at h
    · have := hp1.size; omega
    · simp at h
  have q1 := pext_set (w := wr) (P := Pr) hp.there (o := 0) (v := v0) hn4
  have q2 := pext_set (w := wr.setCell ⟨w.heap.size + 1, 0, none⟩ v0) (P := Pr) q1.there (o := 1) (v := v1) hn4
  have q := q1.trans q2 (fun b hb => .inr hb)
  generalize ((wr.setCell ⟨w.heap.size + 1, 0, none⟩ v0).setCell ⟨w.heap.size + 1, 1, none⟩ v1) = w3 at q
  have q3 : PExt [w.heap.size + 1 + 1, w.heap.size + 1] w1 P1 w3 Pr := (hp.wide (F' := [w.heap.size + 1 + 1, w.heap.size + 1]) (by simp) (fun k hk o => by
    simp at hk
    rcases hk with rfl | rfl
    · exact hp.free _ (by simp) o
    · exact fun h => hn4 o (hp.prot _ _ h))).trans q (fun b hb => .inr (by simp at hb; simp [hb]))
  have hk := q3.keeps Tr fun b hb => ⟨(hTr b hb).2, by have := (hTr b hb).1; simp; omega⟩
  have hL3 : RepL (RepC M schT w3 Pr schM) ss cells Tc := hL.mono fun x cs T' hs r => RepC.mono schT r (hk.sub fun b hb => hsub.subset (hs b hb))
  obtain ⟨T, hr, hT⟩ := bestV_rep hB hL3
  have hT' := hT.trans hsub
  refine ⟨Pr, T, (hp2.trans0 hp1).trans q3 fun b hb => .inl (by simp at hb; omega), ?_, hT'.nodup hnd, fun b hb => ?_⟩
  · show RepV M (.tup [schT, .bool]) w3 Pr (.s schM (.s .p .p)) (b, f, ()) _ T
    simp only [RepV, RepVs, Md.hd, Md.tl]
    refine ⟨[.agg #[v0, v1], .bool f], rfl, .agg #[v0, v1], [.bool f], T, [], rfl, by simp, ?_, .bool f, [], [], [], rfl, rfl, ⟨rfl, rfl⟩, rfl, rfl⟩
    have := hr
    simpa only [RepV] using this
  · have h1 := hTr b (hT'.subset hb)
    have h2 := q3.size
    exact ⟨by omega, by omega⟩
theorem two_at {w : World} {b : Nat} {v0 v1 : Value} {e : TypeId} (h : w.heap[b]? = some (.cells #[v0, v1] e (0, 0))) : w.cell? ⟨b, 0, none⟩ = some v0 ∧ w.cell? ⟨b, 1, none⟩ = some v1 ∧ w.frozen? ⟨b, 0, none⟩ = false ∧ w.frozen? ⟨b, 1, none⟩ = false :=
  ⟨by rw [cell_of h]; rfl, by rw [cell_of h]; rfl, frozen_of h 0, frozen_of h 1⟩
theorem five_at {w : World} {b : Nat} {v0 v1 v2 v3 v4 : Value} {e : TypeId} (h : w.heap[b]? = some (.cells #[v0, v1, v2, v3, v4] e (0, 0))) :
    w.cell? ⟨b, 0, none⟩ = some v0 ∧ w.cell? ⟨b, 1, none⟩ = some v1 ∧ w.cell? ⟨b, 2, none⟩ = some v2 ∧ w.cell? ⟨b, 3, none⟩ = some v3 ∧ w.cell? ⟨b, 4, none⟩ = some v4 :=
  ⟨by rw [cell_of h]; rfl, by rw [cell_of h]; rfl, by rw [cell_of h]; rfl, by rw [cell_of h]; rfl, by rw [cell_of h]; rfl⟩
theorem pext_drew {w : World} {P : Prot} (ht : There w P) : PExt [] w P w.drew P := ⟨rfl, rfl, rfl, Nat.le_refl _, fun _ _ _ => rfl, by simp, fun _ _ h => h, fun _ _ h => .inl h, ht⟩
theorem PExt.drewR {F : List Nat} {w w' : World} {P P' : Prot} (h : PExt F w P w' P') : PExt F w P w'.drew P' := ⟨h.os, h.tape, h.output, h.size, h.block, h.free, h.prot, h.old, h.there⟩
/-- the variable written anew -/
theorem set_var {b6 : Nat} {w1 wx : World} {P1 Px : Prot} {u0 u1 v0 v1 : Value} (h : PExt [b6] w1 P1 wx Px) (hn : ∀ o, ¬ Px b6 o) (hv : wx.heap[b6]? = some (.cells #[u0, u1] 30 (0, 0))) :
    PExt [b6] w1 P1 ((wx.setCell ⟨b6, 0, none⟩ v0).setCell ⟨b6, 1, none⟩ v1) Px ∧ ((wx.setCell ⟨b6, 0, none⟩ v0).setCell ⟨b6, 1, none⟩ v1).heap[b6]? = some (.cells #[v0, v1] 30 (0, 0)) := by
  have q1 := pext_set (w := wx) (P := Px) h.there (o := 0) (v := v0) hn
  have q2 := pext_set (w := wx.setCell ⟨b6, 0, none⟩ v0) (P := Px) q1.there (o := 1) (v := v1) hn
  refine ⟨(h.trans q1 fun b hb => .inr hb).trans q2 fun b hb => .inr hb, ?_⟩
  have := set_heap (set_heap hv 0 v0) 1 v1
  simpa using this
theorem free_later {w w' : World} {P P' : Prot} {b : Nat} (hp : PExt [] w P w' P') (hlt : b < w.heap.size) (hn : ∀ o, ¬ P b o) : ∀ o, ¬ P' b o := fun o ho => by
  rcases hp.old _ _ ho with h | h | h
  · exact hn o h
  · omega
  · simp at h
/-- a call of Makespan -/
theorem span_call {B : Base} {M : Program} {ts : List Ty} {FM : Ty.dens [.st ts, schT] → Unit → Option (Int × Unit)} (hM : SigB B M 36 ⟨[.st ts, schT], [], none, .p, .int .i64, .p, FM⟩) {w w1 wx : World} {P P1 Px : Prot} {b6 : Nat} {Tr Tc : List Nat} {ss : List Sch} {cells : List Value} {b : Sch} {f : Bool}
    {v0 v1 pv : Value} {p : (Ty.st ts).den} {n : Int} (hb : BaseOk M B w P) (h0 : RepV M (.st ts) w P .p p pv []) (hl : Later w P w1 P1) (hL : RepL (RepC M schT w1 P1 schM) ss cells Tc) (hsub : List.Sublist Tc Tr) (hTr : ∀ b ∈ Tr, b6 < b ∧ b < w1.heap.size) (hTn : ∀ b ∈ Tr, ∀ o, ¬ P1 b o) (hp : PExt [b6] w1 P1 wx Px) (hB : BestV ss cells b f v0 v1)
    (hF : (FM (p, b, ()) ()).map (·.1) = some n) : Calls M 36 #[pv, .agg #[v0, v1]] wx fun e w' => ∃ P', e = .returned (.int .i64 n) ∧ PExt [] wx Px w' P' := by
  obtain ⟨⟨n', u⟩, hF2, rfl⟩ := Option.map_eq_some_iff.1 hF
  have hk := hp.keeps Tr fun b hb => ⟨(hTr b hb).2, by have := (hTr b hb).1; simp; omega⟩
  have hL3 : RepL (RepC M schT wx Px schM) ss cells Tc := hL.mono fun x cs T' hs r => RepC.mono schT r (hk.sub fun b hb => hsub.subset (hs b hb))
  obtain ⟨T, hr, hT⟩ := bestV_rep hB hL3
  have hT' := hT.trans hsub
  have hl2 := hl.trans hp.later
  refine (call_lent (D := T) (ys := ()) (vs := [pv, .agg #[v0, v1]]) (caps := []) hM (hb.later hl2) hp.there (fun b hb => ⟨Nat.lt_of_lt_of_le (hTr b (hT'.subset hb)).2 hp.size, fun o ho => hTn b (hT'.subset hb) o (hk.old b (hT'.subset hb) o ho)⟩) rfl ?_ rfl hF2).mono ?_
  · simp only [RepVs, Md.hd, Md.tl]
    exact ⟨_, _, [], [], rfl, rfl, keep_p h0 (hl2.trans (Later.add _ _ _)), _, _, [], [], rfl, rfl, lent_rep hr rfl fun b hb => hb, rfl, rfl⟩
  · rintro e w' ⟨v, P', Tr', rfl, hp', hr', -⟩
    simp only [RepV] at hr'
    exact ⟨P', by rw [hr'.1], hp'⟩
/-- the three variables' blocks -/
structure Vars (w : World) (b2 b6 b9 : Nat) (ps : Array Value) (x y : Array Value) : Prop where
  v2 : w.heap[b2]? = some (.cells ps 37 (0, 0))
  v6 : w.heap[b6]? = some (.cells x 30 (0, 0))
  v9 : w.heap[b9]? = some (.cells y 30 (0, 0))
theorem Vars.later {w w' : World} {P P' : Prot} {b2 b6 b9 : Nat} {ps x y : Array Value} (h : Vars w b2 b6 b9 ps x y) (hp : PExt [] w P w' P') : Vars w' b2 b6 b9 ps x y :=
  ⟨by rw [hp.block _ (Array.getElem?_eq_some_iff.1 h.v2).1 (by simp)]; exact h.v2, by rw [hp.block _ (Array.getElem?_eq_some_iff.1 h.v6).1 (by simp)]; exact h.v6, by rw [hp.block _ (Array.getElem?_eq_some_iff.1 h.v9).1 (by simp)]; exact h.v9⟩
/-- what the loads of a round read -/
def RdS (w1 : World) (P1 : Prot) (b2 b6 b9 : Nat) (p0 p1 p2 p3 p4 u0 u1 v0 v1 : Value) (w' : World) : Prop :=
  (w'.cell? ⟨b2, 0, none⟩ = some p0 ∧ w'.cell? ⟨b2, 1, none⟩ = some p1 ∧ w'.cell? ⟨b2, 2, none⟩ = some p2 ∧ w'.cell? ⟨b2, 3, none⟩ = some p3 ∧ w'.cell? ⟨b2, 4, none⟩ = some p4) ∧
    (w'.cell? ⟨b6, 0, none⟩ = some u0 ∧ w'.cell? ⟨b6, 1, none⟩ = some u1) ∧ (w'.cell? ⟨b9, 0, none⟩ = some v0 ∧ w'.cell? ⟨b9, 1, none⟩ = some v1) ∧
    AsideQ (∃ P', PExt [b6] w1 P1 w' P' ∧ (∀ o, ¬ P' b6 o) ∧ Vars w' b2 b6 b9 #[p0, p1, p2, p3, p4] #[u0, u1] #[v0, v1])
theorem RdS.mk' {w1 : World} {P1 : Prot} {b2 b6 b9 : Nat} {p0 p1 p2 p3 p4 u0 u1 v0 v1 : Value} {w' : World} {P' : Prot} (h1 : PExt [b6] w1 P1 w' P') (h2 : ∀ o, ¬ P' b6 o) (hv : Vars w' b2 b6 b9 #[p0, p1, p2, p3, p4] #[u0, u1] #[v0, v1]) :
    RdS w1 P1 b2 b6 b9 p0 p1 p2 p3 p4 u0 u1 v0 v1 w' :=
  ⟨five_at hv.v2, ⟨(two_at hv.v6).1, (two_at hv.v6).2.1⟩, ⟨(two_at hv.v9).1, (two_at hv.v9).2.1⟩, ⟨P', h1, h2, hv⟩⟩
theorem RdS.drew {w1 : World} {P1 : Prot} {b2 b6 b9 : Nat} {p0 p1 p2 p3 p4 u0 u1 v0 v1 : Value} {w' : World} (h : RdS w1 P1 b2 b6 b9 p0 p1 p2 p3 p4 u0 u1 v0 v1 w') : RdS w1 P1 b2 b6 b9 p0 p1 p2 p3 p4 u0 u1 v0 v1 w'.drew := by
  obtain ⟨P', h1, h2, hv⟩ := h.2.2.2.out
  exact RdS.mk' (PExt.drewR h1) h2 ⟨hv.v2, hv.v6, hv.v9⟩
theorem span_held {B : Base} {M : Program} {ts : List Ty} {FM : Ty.dens [.st ts, schT] → Unit → Option (Int × Unit)} (hM : SigB B M 36 ⟨[.st ts, schT], [], none, .p, .int .i64, .p, FM⟩) {w w1 wx : World} {P P1 : Prot} {b2 b6 b9 : Nat} {Tr Tc : List Nat} {ss : List Sch} {cells : List Value} {b : Sch} {f : Bool}
    {v0 v1 pv p0 p1 p2 p3 p4 x0 x1 y0 y1 : Value} {p : (Ty.st ts).den} {n : Int} (hb : BaseOk M B w P) (h0 : RepV M (.st ts) w P .p p pv []) (hl : Later w P w1 P1) (hL : RepL (RepC M schT w1 P1 schM) ss cells Tc) (hsub : List.Sublist Tc Tr) (hTr : ∀ b ∈ Tr, b6 < b ∧ b < w1.heap.size) (hTn : ∀ b ∈ Tr, ∀ o, ¬ P1 b o) (hB : BestV ss cells b f v0 v1)
    (hF : (FM (p, b, ()) ()).map (·.1) = some n) (hS : RdS w1 P1 b2 b6 b9 p0 p1 p2 p3 p4 x0 x1 y0 y1 wx) : Calls M 36 #[pv, .agg #[v0, v1]] wx fun e w' => e = .returned (.int .i64 n) ∧ RdS w1 P1 b2 b6 b9 p0 p1 p2 p3 p4 x0 x1 y0 y1 w' := by
  obtain ⟨Px, hp, hn, hv⟩ := hS.2.2.2.out
  refine (span_call hM hb h0 hl hL hsub hTr hTn hp hB hF).mono ?_
  rintro e w' ⟨P', rfl, hp'⟩
  exact ⟨rfl, RdS.mk' (hp.trans hp' (by simp)) (free_later hp' (Array.getElem?_eq_some_iff.1 hv.v6).1 hn) (hv.later hp')⟩
set_option maxRecDepth 100000 in
set_option maxHeartbeats 4000000 in
theorem Tryz.best_ok {ts : List Ty} (hts : Ty.sizes ts = 5) {B : Base} {FA : Ty.dens [.st ts, .int .i64] → Unit → Option (List Sch × Unit)} {FM : Ty.dens [.st ts, schT] → Unit → Option (Int × Unit)}
    (hA : SigB B Tryz.prog 35 ⟨[.st ts, .int .i64], [], none, .p, .sl 30 schT, Ty.all (.sl 30 schT), FA⟩) (hM : SigB B Tryz.prog 36 ⟨[.st ts, schT], [], none, .p, .int .i64, .p, FM⟩) :
    SigB B Tryz.prog 8 ⟨[.st ts, .int .i64], [], none, .p, .tup [schT, .bool], Ty.all (.tup [schT, .bool]), bestF FA FM⟩ := by
  refine ⟨⟨Tryz.f8, Tryz.func8, by decide, rfl⟩, fun w P xs ys vs caps Ti y hb ht hv hTi hTp hcap hy => ?_⟩
  obtain ⟨p, most, u⟩ := xs
  change Int at most
  cases u
  replace hv : ArgsR Tryz.prog w P .p none [.st ts, .int .i64] (p, most, ()) vs Ti := hv
  replace hcap : caps = [] := hcap
  replace hy : bestF FA FM (p, most, ()) ys = some y := hy
  simp only [ArgsR] at hv
  obtain ⟨v0, r, rfl, h0, v1, r1, rfl, h1, rfl, rfl⟩ := hv
  simp only [RepV] at h1
  obtain ⟨rfl, -⟩ := h1
  subst hcap
  unfold bestF at hy
  obtain ⟨⟨ss, u2⟩, hFA, hy⟩ := Option.bind_eq_some_iff.1 hy
  obtain ⟨⟨rb, rf⟩, hR, hy⟩ := Option.map_eq_some_iff.1 hy
  cases hy
  cases u2
  have h0' := h0
  simp only [RepV] at h0'
  obtain ⟨cs, rfl, hcs⟩ := h0'
  have hlen := (RepCs.length ts hcs).1
  rw [hts] at hlen
  match cs, hlen with
  | [p0, p1, p2, p3, p4], _ =>
  have hp2 : PExt [] w P (((w.alloc (Obj.cells #[p0, p1, p2, p3, p4] 37)).alloc (Obj.cells #[Value.slice none 0 0, Value.slice none 0 0] 30)).alloc (Obj.cells #[Value.slice none 0 0, Value.slice none 0 0] 30)) P :=
    pext_bel ((((Below.refl _ _).alloc (Nat.le_refl _) _).alloc (by simp) _).alloc (by simp; omega) _) ht
  have hcall := call_plain hA (hb.later hp2.later) hp2.there (xs := (p, most, ())) (ys := ()) (vs := [.agg #[p0, p1, p2, p3, p4], .int .i64 most]) (caps := []) (by
    simp only [RepVs, Md.hd, Md.tl]
    exact ⟨_, _, [], [], rfl, rfl, keep_p h0 hp2.later, _, _, [], [], rfl, rfl, (by simp [RepV]), rfl, rfl⟩) rfl hFA
  obtain ⟨w2, hw2⟩ : ∃ w2, w2 = (((w.alloc (Obj.cells #[p0, p1, p2, p3, p4] 37)).alloc (Obj.cells #[Value.slice none 0 0, Value.slice none 0 0] 30)).alloc (Obj.cells #[Value.slice none 0 0, Value.slice none 0 0] 30)) := ⟨_, rfl⟩
  rw [← hw2] at hcall hp2
  have W2 : AsideQ (w2.heap.size = w.heap.size + 1 + 1 + 1 ∧ w2.heap[w.heap.size]? = some (.cells #[p0, p1, p2, p3, p4] 37 (0, 0)) ∧ w2.heap[w.heap.size + 1]? = some (.cells #[Value.slice none 0 0, Value.slice none 0 0] 30 (0, 0)) ∧ w2.heap[w.heap.size + 1 + 1]? = some (.cells #[Value.slice none 0 0, Value.slice none 0 0] 30 (0, 0))) := by
    subst hw2
    have he : ∀ (w : World) (o : Obj), (w.alloc o).heap = w.heap.push o := fun _ _ => rfl
    refine ⟨⟨by simp only [he, Array.size_push], ?_, ?_, ?_⟩⟩ <;> simp only [he, Array.getElem?_push, Array.size_push] <;> repeat (first | rfl | rw [if_pos rfl] | rw [if_neg (by omega)])
  have HP : AsideQ (PExt [] w P w2 P) := ⟨hp2⟩
  have X : AsideQ (BaseOk Tryz.prog B w P ∧ There w P ∧ RepV Tryz.prog (.st ts) w P .p p (.agg #[p0, p1, p2, p3, p4]) []) := ⟨hb, ht, h0⟩
  clear hA hcs hp2 h0 hTi hTp hb ht hFA hts
  go_enter Tryz.func8, Tryz.ntmps8
  go_wp2_with fail
  rw [← hw2]
  refine hcall.mono ?_
  rintro e w1 ⟨v, P1, Tr, rfl, hp1, hrep, hnd, hTr⟩
  obtain ⟨a, cap, cells, Tc, rfl, hmax, hL, hsub, hcl, hat⟩ := own_list (t := schT) (c := .s (.u .p) (.s (.u .p) .p)) hrep
  have XN : AsideQ (ss.length ≤ maxLen) := ⟨hmax⟩
  have XR : AsideQ (bestL (fun s => (FM (p, s, ()) ()).map (·.1)) ss ([], [], ()) false = some (rb, rf)) := ⟨hR⟩
  have X2 : AsideQ (PExt [] w2 P w1 P1) := ⟨hp1⟩
  have XT : AsideQ (Tr.Nodup ∧ (∀ b ∈ Tr, w2.heap.size ≤ b ∧ b < w1.heap.size) ∧ RepL (RepC Tryz.prog schT w1 P1 schM) ss cells Tc ∧ List.Sublist Tc Tr ∧ (0 < ss.length → ∃ b, a = some ⟨b, 0, none⟩ ∧ b ∈ Tr ∧ CellsIn w1 b 0 cells)) := ⟨hnd, hTr, hL, hsub, hat⟩
  have XF : AsideQ (∀ b ∈ Tr, ∀ o, ¬ P1 b o) := ⟨RepV.free _ hrep⟩
  clear hp1 hrep hnd hTr hL hsub hcl hat hmax hcall hR
  go_wp2
  go_loopg [7, 15] ss.length (fun k s7 s15 wr => ∃ (j : Nat) (b : Sch) (f : Bool) (x0 x1 : Option Addr) (n0 k0 n1 k1 : Nat) (Pr : Prot), s7 = .bool f ∧ s15 = .int .i64 (j : Int) ∧ wr.heap[w.heap.size + 1 + 1]? = some (.cells #[.slice x0 n0 k0, .slice x1 n1 k1] 30 (0, 0)) ∧ AsideQ (j + k = ss.length ∧ bestL (fun s => (FM (p, s, ()) ()).map (·.1)) (ss.drop j) b f = some (rb, rf) ∧ PExt [w.heap.size + 1 + 1] w1 P1 wr Pr ∧ (∀ o, ¬ Pr (w.heap.size + 1 + 1) o) ∧
    BestV ss cells b f (.slice x0 n0 k0) (.slice x1 n1 k1)))
  case atStart =>
    have h6 : w1.heap[w.heap.size + 1 + 1]? = some (.cells #[.slice none 0 0, .slice none 0 0] 30 (0, 0)) := by
      rw [X2.out.block _ (by have := W2.out.1; omega) (by simp)]
      exact W2.out.2.2.2
    have hn6 : ∀ o, ¬ P1 (w.heap.size + 1 + 1) o := free_later X2.out (by have := W2.out.1; omega) fun o ho => by
      obtain ⟨v, hv⟩ := X.out.2.1 _ _ ho
      have := World.block_lt_of_cell? w ⟨_, o, none⟩ hv
      simp at this
      omega
    refine ⟨0, ([], [], ()), false, none, none, 0, 0, 0, 0, P1, rfl, rfl, h6, ⟨by omega, XR.out, ⟨rfl, rfl, rfl, Nat.le_refl _, fun _ _ _ => rfl, fun k hk o => ?_, fun _ _ h => h, fun _ _ h => .inl h, X2.out.there⟩, hn6, .inl ⟨rfl, rfl, rfl, rfl⟩⟩⟩
    simp at hk
    subst hk
    exact hn6 o
  case round =>
    obtain ⟨j, b, f, x0, x1, n0, k0, n1, k1, Pr, rfl, rfl, hb6, Y⟩ := hrel
    cases gk with
    | zero =>
      obtain rfl : j = ss.length := by have := Y.out.1; omega
      have hc0 := cell_of hb6 0
      have hc1 := cell_of hb6 1
      have hb4 : wr.heap[w.heap.size + 1]? = some (.cells #[Value.slice none 0 0, Value.slice none 0 0] 30 (0, 0)) := by
        have hs := W2.out.1
        rw [Y.out.2.2.1.block _ (by have := X2.out.size; omega) (by simp), X2.out.block _ (by omega) (by simp)]
        exact W2.out.2.2.1
      have hd0 := cell_of hb4 0
      have hd1 := cell_of hb4 1
      have hf0 := frozen_of hb4 0
      have hf1 := frozen_of hb4 1
      simp at hc0 hc1 hd0 hd1
      go_wp2
      · exact absurd (by assumption) (Nat.lt_irrefl ss.length)
      have hv3 := set_heap (set_heap hb4 0 (.slice x0 n0 k0)) 1 (.slice x1 n1 k1)
      simp only [List.setIfInBounds_toArray, List.set_cons_zero, List.set_cons_succ] at hv3
      (try simp only [Exit.inBlock, Exit.then])
      refine bodyPost_ret (P := Tryz.prog) (fn := Tryz.f8) (v := .tuple #[.agg #[.slice x0 n0 k0, .slice x1 n1 k1], .bool f]) ?hr ?hd ?hR
      case hd => rfl
      case hr =>
        rw [results_cell_tmp rfl]
        simp [asAddr, Result.andThen]
        rw [run_loadVar_row _ _ 30 30 _ _ _ hv3 Tryz.underlying30 rfl rfl]
      obtain ⟨P', T, g1, g2, g3, g4⟩ := best_end X.out.2.1 HP.out W2.out.1 X2.out XT.out.2.2.1 XT.out.2.2.2.1 XT.out.1 XT.out.2.1 Y.out.2.2.1 Y.out.2.2.2.2
      have hb := Y.out.2.1
      rw [List.drop_length] at hb
      simp only [bestL, Option.some.injEq, Prod.mk.injEq] at hb
      obtain ⟨rfl, rfl⟩ := hb
      exact ⟨_, P', T, [], rfl, g1, g2, rfl, by simpa using g3, fun b hb => .inr (g4 b (by simpa using hb))⟩
    | succ k =>
      have hj : j < ss.length := by have := Y.out.1; omega
      obtain ⟨bl, rfl, hblT, hin⟩ := XT.out.2.2.2.2 (by omega)
      obtain ⟨y0, m0, l0, y1, m1, l1, hq0, hq1⟩ := elem_cells XT.out.2.2.1 (List.getElem?_eq_getElem hj)
      have hbl := XT.out.2.1 bl hblT
      have hs := W2.out.1
      have hblk : wr.heap[bl]? = w1.heap[bl]? := Y.out.2.2.1.block _ hbl.2 (by simp; omega)
      have hx0 : wr.cell? ⟨bl, j * 2, none⟩ = some (.slice y0 m0 l0) := by
        rw [World.cell?_of_block hblk]
        have := hin (j * 2) _ hq0
        simpa using this
      have hx1 : wr.cell? ⟨bl, j * 2 + 1, none⟩ = some (.slice y1 m1 l1) := by
        rw [World.cell?_of_block hblk]
        have := hin (j * 2 + 1) _ hq1
        simpa using this
      clear hblk hs hbl
      go_wp2
      have hV : Vars (wr.alloc (.cells #[.slice y0 m0 l0, .slice y1 m1 l1] 30)) w.heap.size (w.heap.size + 1 + 1) wr.heap.size #[p0, p1, p2, p3, p4] #[.slice x0 n0 k0, .slice x1 n1 k1] #[.slice y0 m0 l0, .slice y1 m1 l1] := by
        have hs := W2.out.1
        have hl := (Array.getElem?_eq_some_iff.1 hb6).1
        refine ⟨?_, ?_, heap_alloc_new _ _⟩
        · rw [heap_alloc_old _ _ (by omega), Y.out.2.2.1.block _ (by have := X2.out.size; omega) (by simp; omega), X2.out.block _ (by omega) (by simp)]
          exact W2.out.2.1
        · rw [heap_alloc_old _ _ hl]
          exact hb6
      have hPA : PExt [] wr Pr (wr.alloc (.cells #[.slice y0 m0 l0, .slice y1 m1 l1] 30)) Pr := pext_bel ((Below.refl _ _).alloc (Nat.le_refl _) _) Y.out.2.2.1.there
      clear hx0 hx1 hb6
      obtain ⟨wa, hwa⟩ : ∃ wa, wa = wr.alloc (.cells #[.slice y0 m0 l0, .slice y1 m1 l1] 30) := ⟨_, rfl⟩
      rw [← hwa] at hV hPA ⊢
      obtain ⟨c20, c21, c22, c23, c24⟩ := five_at (hV.v2)
      obtain ⟨c60, c61, f60, f61⟩ := two_at (Vars.v6 hV)
      obtain ⟨c90, c91, f90, f91⟩ := two_at (Vars.v9 hV)
      have VV : AsideQ (Vars wa w.heap.size (w.heap.size + 1 + 1) wr.heap.size #[p0, p1, p2, p3, p4] #[.slice x0 n0 k0, .slice x1 n1 k1] #[.slice y0 m0 l0, .slice y1 m1 l1] ∧ PExt [] wr Pr wa Pr) := ⟨hV, hPA⟩
      clear hV hPA hwa
      have hb9 : wr.heap.size ≠ w.heap.size + 1 + 1 := by
        have h1 := X2.out.size; have h2 := W2.out.1; have h3 := Y.out.2.2.1.size
        omega
      generalize wr.heap.size = b9 at *
      have hjw : RowKit.wrap64 ((j : Int) + 1) = ((j + 1 : Nat) : Int) := by
        have := XN.out
        unfold maxLen at this
        unfold RowKit.wrap64
        omega
      have hdr : ss.drop j = ss[j] :: ss.drop (j + 1) := List.drop_eq_getElem_cons hj
      have hBs : BestV ss cells ss[j] true (.slice y0 m0 l0) (.slice y1 m1 l1) := .inr ⟨rfl, j, List.getElem?_eq_getElem hj, hq0, hq1⟩
      have ZZ : AsideQ (RowKit.wrap64 ((j : Int) + 1) = ((j + 1 : Nat) : Int) ∧ ss.drop j = ss[j] :: ss.drop (j + 1) ∧ BestV ss cells ss[j] true (.slice y0 m0 l0) (.slice y1 m1 l1)) := ⟨hjw, hdr, hBs⟩
      clear hjw hdr hBs hq0 hq1
      cases f with
      | false =>
        go_region
        all_goals (try go_wp2)
        go_roundg k
        case measure => omega
        case rel =>
          have hb := Y.out.2.1
          rw [ZZ.out.2.1] at hb
          obtain ⟨s1, s2⟩ := set_var (v0 := .slice y0 m0 l0) (v1 := .slice y1 m1 l1) (Y.out.2.2.1.trans VV.out.2 (by simp)) Y.out.2.2.2.1 VV.out.1.v6
          exact ⟨j + 1, ss[j], true, y0, y1, m0, l0, m1, l1, Pr, rfl, by rw [ZZ.out.1], s2, ⟨by have := Y.out.1; omega, hb, PExt.drewR s1, Y.out.2.2.2.1, ZZ.out.2.2⟩⟩
      | true =>
        have hb := Y.out.2.1
        rw [ZZ.out.2.1] at hb
        obtain ⟨n, hn, hb⟩ := Option.bind_eq_some_iff.1 (show ((FM (p, ss[j], ()) ()).map (·.1)).bind (fun n => ((FM (p, b, ()) ()).map (·.1)).bind fun k => if n < k then bestL (fun s => (FM (p, s, ()) ()).map (·.1)) (ss.drop (j + 1)) ss[j] true else bestL (fun s => (FM (p, s, ()) ()).map (·.1)) (ss.drop (j + 1)) b true) = _ from hb)
        obtain ⟨m, hm, hb⟩ := Option.bind_eq_some_iff.1 hb
        have hTr' : ∀ b ∈ Tr, w.heap.size + 1 + 1 < b ∧ b < w1.heap.size := fun b hb => by
          have := XT.out.2.1 b hb
          have := W2.out.1
          omega
        have hTn : ∀ b ∈ Tr, ∀ o, ¬ P1 b o := fun b hb o ho => XF.out b hb o ho
        have CC : AsideQ ((∀ wx, RdS w1 P1 w.heap.size (w.heap.size + 1 + 1) b9 p0 p1 p2 p3 p4 (.slice x0 n0 k0) (.slice x1 n1 k1) (.slice y0 m0 l0) (.slice y1 m1 l1) wx → Calls Tryz.prog 36 #[.agg #[p0, p1, p2, p3, p4], .agg #[.slice y0 m0 l0, .slice y1 m1 l1]] wx fun e w' => e = .returned (.int .i64 n) ∧ RdS w1 P1 w.heap.size (w.heap.size + 1 + 1) b9 p0 p1 p2 p3 p4 (.slice x0 n0 k0) (.slice x1 n1 k1) (.slice y0 m0 l0) (.slice y1 m1 l1) w') ∧
            (∀ wx, RdS w1 P1 w.heap.size (w.heap.size + 1 + 1) b9 p0 p1 p2 p3 p4 (.slice x0 n0 k0) (.slice x1 n1 k1) (.slice y0 m0 l0) (.slice y1 m1 l1) wx → Calls Tryz.prog 36 #[.agg #[p0, p1, p2, p3, p4], .agg #[.slice x0 n0 k0, .slice x1 n1 k1]] wx fun e w' => e = .returned (.int .i64 m) ∧ RdS w1 P1 w.heap.size (w.heap.size + 1 + 1) b9 p0 p1 p2 p3 p4 (.slice x0 n0 k0) (.slice x1 n1 k1) (.slice y0 m0 l0) (.slice y1 m1 l1) w') ∧
            (if n < m then bestL (fun s => (FM (p, s, ()) ()).map (·.1)) (ss.drop (j + 1)) ss[j] true else bestL (fun s => (FM (p, s, ()) ()).map (·.1)) (ss.drop (j + 1)) b true) = some (rb, rf) ∧ b9 ≠ w.heap.size + 1 + 1 ∧ k + (j + 1) = ss.length) :=
          ⟨fun wx hS => span_held hM X.out.1 X.out.2.2 (HP.out.later.trans X2.out.later) XT.out.2.2.1 XT.out.2.2.2.1 hTr' hTn ZZ.out.2.2 hn hS,
            fun wx hS => span_held hM X.out.1 X.out.2.2 (HP.out.later.trans X2.out.later) XT.out.2.2.1 XT.out.2.2.2.1 hTr' hTn Y.out.2.2.2.2 hm hS, hb, hb9, by have := Y.out.1; omega⟩
        have hS0 : RdS w1 P1 w.heap.size (w.heap.size + 1 + 1) b9 p0 p1 p2 p3 p4 (.slice x0 n0 k0) (.slice x1 n1 k1) (.slice y0 m0 l0) (.slice y1 m1 l1) wa.drew := RdS.drew (RdS.mk' (Y.out.2.2.1.trans VV.out.2 (by simp)) Y.out.2.2.2.1 VV.out.1)
        clear hb hn hm hTr' hTn hb9 c20 c21 c22 c23 c24 c60 c61 f60 f61 c90 c91 f90 f91
        unfold RdS at hS0
        go_region_held2 (fun w' => (w'.cell? ⟨w.heap.size, 0, none⟩ = some p0 ∧ w'.cell? ⟨w.heap.size, 1, none⟩ = some p1 ∧ w'.cell? ⟨w.heap.size, 2, none⟩ = some p2 ∧ w'.cell? ⟨w.heap.size, 3, none⟩ = some p3 ∧ w'.cell? ⟨w.heap.size, 4, none⟩ = some p4) ∧
            (w'.cell? ⟨w.heap.size + 1 + 1, 0, none⟩ = some (.slice x0 n0 k0) ∧ w'.cell? ⟨w.heap.size + 1 + 1, 1, none⟩ = some (.slice x1 n1 k1)) ∧ (w'.cell? ⟨b9, 0, none⟩ = some (.slice y0 m0 l0) ∧ w'.cell? ⟨b9, 1, none⟩ = some (.slice y1 m1 l1)) ∧
            AsideQ (∃ P', PExt [w.heap.size + 1 + 1] w1 P1 w' P' ∧ (∀ o, ¬ P' (w.heap.size + 1 + 1) o) ∧ Vars w' w.heap.size (w.heap.size + 1 + 1) b9 #[p0, p1, p2, p3, p4] #[.slice x0 n0 k0, .slice x1 n1 k1] #[.slice y0 m0 l0, .slice y1 m1 l1]))
          (first | exact hSd | exact hSc | exact hS0)
          (first
            | (go_at_call 36; refine (CC.out.2.1 _ hSc).mono ?_; clear hSc; rintro e wd ⟨rfl, hSd⟩; unfold RdS at hSd)
            | (go_at_call 36; refine (CC.out.1 _ hS0).mono ?_; rintro e wc ⟨rfl, hSc⟩; unfold RdS at hSc))
        obtain ⟨Pd, q1, q2, q3⟩ := hSd.2.2.2.out
        have QQ : AsideQ (PExt [w.heap.size + 1 + 1] w1 P1 wd Pd ∧ (∀ o, ¬ Pd (w.heap.size + 1 + 1) o) ∧ Vars wd w.heap.size (w.heap.size + 1 + 1) b9 #[p0, p1, p2, p3, p4] #[.slice x0 n0 k0, .slice x1 n1 k1] #[.slice y0 m0 l0, .slice y1 m1 l1]) := ⟨q1, q2, q3⟩
        obtain ⟨e60, e61, h60, h61⟩ := two_at q3.v6
        obtain ⟨e90, e91, h90, h91⟩ := two_at q3.v9
        clear hSd hS0 q1 q2 q3
        rename_i hHeld
        clear hHeld
        go_wp2
        · go_roundg k
          case measure => omega
          case rel =>
            have hlt : n < m := by assumption
            have hb := CC.out.2.2.1
            rw [if_pos hlt] at hb
            obtain ⟨s1, s2⟩ := set_var (v0 := .slice y0 m0 l0) (v1 := .slice y1 m1 l1) QQ.out.1 QQ.out.2.1 QQ.out.2.2.v6
            exact ⟨j + 1, ss[j], true, y0, y1, m0, l0, m1, l1, Pd, rfl, by rw [ZZ.out.1], s2, ⟨by have := CC.out.2.2.2.2; omega, hb, s1, QQ.out.2.1, ZZ.out.2.2⟩⟩
        · go_roundg k
          case measure => omega
          case rel =>
            have hlt : ¬ n < m := by first | assumption | omega
            have hb := CC.out.2.2.1
            rw [if_neg hlt] at hb
            exact ⟨j + 1, b, true, x0, x1, n0, k0, n1, k1, Pd, rfl, by rw [ZZ.out.1], QQ.out.2.2.v6, ⟨by have := CC.out.2.2.2.2; omega, hb, QQ.out.1, QQ.out.2.1, Y.out.2.2.2.2⟩⟩
end Go.Proofs
