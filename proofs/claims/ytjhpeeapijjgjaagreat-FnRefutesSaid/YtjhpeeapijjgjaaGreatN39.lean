/-
  The meta layer, part 39: what a function returns that copies a list of numbers, sorts it and takes out what stands twice, as the reader's tables hold it: memory of its own. No condition.
-/
import Derived.Test.YtjhpeeapijjgjaaGreatN37
import Derived.Lib.OwnBridge
import Derived.Lib.SlicesCompact
import Derived.Sort.OwnSortedInts
namespace Go.Abs
open Go.RowKit Go.Sort Go.Proofs
set_option linter.unusedVariables false
set_option linter.unusedSimpArgs false

theorem pext_new {w w' : World} {P : Prot} (h : Below w.heap.size w w') (ht : There w P) : PExt [] w P w' P :=
  ⟨h.os, h.tape, h.output, h.size, fun k hk _ => h.block k hk, fun _ hk => by simp at hk, fun _ _ hp => hp, fun _ _ hp => .inl hp, fun b o hp => by
    obtain ⟨v, hv⟩ := ht b o hp
    exact ⟨v, by rw [World.cell?_of_block (h.block b (World.block_lt_of_cell? w ⟨b, o, none⟩ hv))]; exact hv⟩⟩
theorem repL_ints {M : Program} {w : World} {P : Prot} {m : Md} : ∀ {xs : List Int} {cs : List Value} {T : List Nat}, RepL (RepC M (.int .i64) w P m) xs cs T → cs = xs.map (Value.int .i64) ∧ T = []
  | [], cs, T, h => h
  | x :: xs, cs, T, ⟨c1, c2, T1, T2, e1, e2, h1, h2⟩ => by
    simp only [RepC] at h1
    obtain ⟨k1, k2⟩ := repL_ints h2
    subst e1 e2
    rw [h1.1, h1.2, k1, k2]
    exact ⟨rfl, rfl⟩
theorem ints_repL {M : Program} {w : World} {P : Prot} {m : Md} : ∀ (xs : List Int), RepL (RepC M (.int .i64) w P m) xs (xs.map (Value.int .i64)) []
  | [] => ⟨rfl, rfl⟩
  | x :: xs => ⟨[.int .i64 x], xs.map (Value.int .i64), [], [], rfl, rfl, by simp only [RepC]; exact ⟨trivial, trivial⟩, ints_repL xs⟩
/-! the three steps: copied, sorted, cut -/
theorem ownsRow_grow {w : World} {base : Nat} {e : TypeId} {size : Nat} {v : Value} {n : Nat} {xs : List Value} (os : Array Obj) (h : w.ownsRow base e size v n xs) : (grow w os).ownsRow base e size v n xs := by
  obtain ⟨h1, h2 | ⟨g, cap, cur, e1, hb, hg, hn, hm, hs, ht⟩⟩ := h
  · exact ⟨h1, .inl h2⟩
  · exact ⟨h1, .inr ⟨g, cap, cur, e1, hb, by rw [heap_grow_old w os (Array.getElem?_eq_some_iff.1 hg).1]; exact hg, hn, hm, hs, ht⟩⟩
theorem compact_le (zs : List Int) : (Lib.compact zs).length ≤ zs.length := by
  unfold Lib.compact Lib.compactUpTo
  rw [List.length_map]
  refine Nat.le_trans (List.length_filter_le _ _) ?_
  rw [List.length_range]
  exact Nat.le_refl _
theorem set_sorted {w w1 w2 : World} {g cap nn : Nat} {os : Array Obj} {zs S : List Int} (hS : S.length = zs.length) (hown : w1.ownsRow w.heap.size 3 1 (.slice (some ⟨g, 0, none⟩) zs.length cap) zs.length (zs.map (Value.int .i64))) (hb : Below w.heap.size w w1) (hg : w.heap.size ≤ g) (hgl : g < w1.heap.size) (hH : Holds (Value.int .i64) w1 g 0 zs.toArray)
    (hw2 : w2 = grow (putRow (Value.int .i64) (Sort.ahead w1 nn) g 0 S.toArray) os) :
    w2.ownsRow w.heap.size 3 1 (.slice (some ⟨g, 0, none⟩) zs.length cap) zs.length (S.map (Value.int .i64)) ∧ Below w.heap.size w w2 ∧ Holds (Value.int .i64) w2 g 0 S.toArray := by
  subst hw2
  have h1 := Lib.ownsRow_putRow (q := nn) (k := zs.length) (ys := S) hown hS (Nat.le_refl _)
  rw [← hS, List.take_length] at h1
  rw [← hS]
  refine ⟨ownsRow_grow os h1, hb.grown (grownBy_sortedI _) hb.size (fun j hj => by cases hj; exact hg), ?_⟩
  exact holds_grow _ _ os g 0 _ (by simpa [putRow, mapBlock, Sort.ahead] using hgl) (holds_putRow _ _ g 0 _ _ (holds_ahead _ w1 nn g 0 _ hH) (by simp [hS]))
theorem set_cut {w w2 w3 : World} {g cap q n : Nat} {S : List Int} (hS : S.length = n) (hown : w2.ownsRow w.heap.size 3 1 (.slice (some ⟨g, 0, none⟩) n cap) n (S.map (Value.int .i64))) (hb : Below w.heap.size w w2) (hg : w.heap.size ≤ g)
    (hw3 : w3 = putRow (Value.int .i64) (Sort.ahead w2 q) g 0 (Lib.compact S ++ List.replicate (S.length - (Lib.compact S).length) 0).toArray) :
    w3.ownsRow w.heap.size 3 1 (.slice (some ⟨g, 0, none⟩) (Lib.compact S).length cap) (Lib.compact S).length ((Lib.compact S).map (Value.int .i64)) ∧ Below w.heap.size w w3 := by
  subst hw3
  have hl := compact_le S
  have h1 := Lib.ownsRow_putRow (q := q) (k := (Lib.compact S).length) (ys := Lib.compact S ++ List.replicate (S.length - (Lib.compact S).length) 0) hown (by simp; omega) (by omega)
  rw [List.take_left'] at h1
  · exact ⟨h1, Lib.below_putRow hb hg⟩
  · rfl
/-- a list sorted, each number once -/
def setLL (zs : List Int) : List Int := Lib.compact (zs.mergeSort fun x y => decide (x ≤ y))
def setLF : Ty.dens [.sl 3 (.int .i64)] → Unit → Option (List Int × Unit) := fun x _ =>
  if 0 < (show List Int from x.1).length ∧ (show List Int from x.1).length ≤ 1000 then some (setLL x.1, ()) else none
def setLS : FSig := ⟨[.sl 3 (.int .i64)], [], none, .p, .sl 3 (.int .i64), Ty.all (.sl 3 (.int .i64)), setLF⟩
theorem setL_ok {M : Program} {f : FuncId} (hf : Has M f) {B : Base}
    (hc : ∀ (b off cap : Nat) (zs : List Int) (w : World), 0 < zs.length → zs.length ≤ 1000 → zs.length ≤ cap → (∀ j, j < zs.length → w.cell? ⟨b, off + j, none⟩ = some (.int .i64 (zs.getD j 0))) →
      Calls M f #[.slice (some ⟨b, off, none⟩) zs.length cap] w fun e w' => ∃ g cap', e = .returned (.slice (some ⟨g, 0, none⟩) (setLL zs).length cap') ∧
        w'.ownsRow w.heap.size 3 1 (.slice (some ⟨g, 0, none⟩) (setLL zs).length cap') (setLL zs).length ((setLL zs).map (Value.int .i64)) ∧ Below w.heap.size w w') : SigB B M f setLS := by
  refine ⟨hf, fun w P xs ys vs caps Ti y hb hthere hv hTi hTp hcap hy => ?_⟩
  obtain ⟨zs, u, rfl⟩ : ∃ (zs : List Int) (u : Unit), xs = (zs, u) := ⟨xs.1, xs.2, rfl⟩
  replace hv : ArgsR M w P .p none [.sl 3 (.int .i64)] (zs, u) vs Ti := hv
  replace hcap : caps = [] := hcap
  replace hy : setLF (zs, u) ys = some y := hy
  simp only [ArgsR] at hv
  obtain ⟨v, r, rfl, h1, rfl, rfl⟩ := hv
  subst hcap
  replace h1 : RepSl (RepC M (.int .i64) w P) 3 1 w P .p zs v [] := h1
  unfold setLF at hy
  split at hy
  · rename_i hn
    replace hn : 0 < zs.length ∧ zs.length ≤ 1000 := hn
    cases hy
    obtain ⟨-, ⟨e0, -⟩ | ⟨b, off, cap, cells, rfl, hcp, hL, hcl, hcs⟩⟩ := h1
    · subst e0
      exact absurd (show 0 < 0 from hn.1) (Nat.lt_irrefl 0)
    · have hcells := (repL_ints hL).1
      have hz : ∀ j, j < zs.length → w.cell? ⟨b, off + j, none⟩ = some (.int .i64 (zs.getD j 0)) := fun j hj => by
        refine (hcs j _ ?_).1
        rw [hcells, List.getElem?_map, List.getElem?_eq_getElem hj]
        simp [List.getD, List.getElem?_eq_getElem hj]
      refine (hc b off cap zs w hn.1 hn.2 hcp hz).mono ?_
      rintro e w' ⟨g, cap', rfl, hown, hbel⟩
      obtain ⟨hlen, ⟨e0, -⟩ | ⟨g', cap'', cur, e0, hbg, hg, hnc, hm, hs, ht⟩⟩ := hown
      · cases e0
      injection e0 with e1 _ e3
      injection e1 with e1
      injection e1 with e1
      subst e1 e3
      have hlt : g < w'.heap.size := (Array.getElem?_eq_some_iff.1 hg).1
      refine ⟨_, P, [g], [], rfl, pext_new hbel hthere, ?_, ?_, by simp, fun b' hb' => ?_⟩
      · show RepSl (RepC M (.int .i64) w' P) 3 1 w' P (.u .p) (setLL zs) _ [g]
        refine .inr ⟨g, cap', (setLL zs).map (Value.int .i64), [], rfl, hnc, hm, ⟨cur, hg, hs⟩, ints_repL _, (by rw [List.length_map]; exact (Nat.mul_one _).symm), fun j v' hv' => ?_, rfl, fun o hp => ?_⟩
        · rw [← ht, List.getElem?_take] at hv'
          split at hv'
          · simp only [World.cell?, hg, Nat.zero_add]
            rw [Array.getElem?_toList] at hv'
            simp [hv']
          · cases hv'
        · obtain ⟨v', hv'⟩ := hthere g o hp
          have := World.block_lt_of_cell? w ⟨g, o, none⟩ hv'
          exact absurd this (by simp; omega)
      · show IoR M _ P .p [.sl 3 (.int .i64)] none _ _ []
        simp only [IoR]
      · rw [List.append_nil] at hb'
        rw [List.mem_singleton.1 hb']
        exact .inr ⟨hbg, hlt⟩
  · cases hy
end Go.Abs
