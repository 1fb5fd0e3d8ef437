/-
  The contracts of the library by which impl.SetOf is walked, laid at this program, and the walk. No condition.
-/
import Derived.Test.YtjhpeeapijjgjaaGreatN39
import Derived.Test.YtjhpeeapijjgjaaGreatProg
import Derived.KernelRfl
import Derived.Shelf.Slices.Clone
import Derived.Shelf.Slices.CompactI
import Derived.Shelf.Sort.Plain
import Derived.WalkKit
import Derived.WalkSpells
import Derived.WalkLawsBesides
import Derived.Deep.QuietTactic
import Derived.BigQuiet
import Derived.ProofKit
import Derived.OpenShut
import Derived.Lib.Hide
namespace Go.Proofs
open Go.Shelf
set_option linter.unusedVariables false
set_option linter.unusedSimpArgs false
def Tryz.lays189_ren : Go.Shelf.Ren := ⟨fun | 189 => 130 | 125 => 188 | 257 => 187 | 128 => 239 | 129 => 240 | 294 => 230 | 295 => 231 | 296 => 232 | 297 => 233 | 298 => 234 | 299 => 235 | 216 => 236 | 300 => 237 | 301 => 238 | 328 => 264 | 329 => 265 | 330 => 266 | 331 => 267 | 332 => 268 | 215 => 158 | 343 => 286 | n => n, fun | 28 => 26 | 3 => 3 | 46 => 184 | 0 => 0 | 51 => 217 | 53 => 219 | 4 => 4 | 183 => 210 | 182 => 209 | 131 => 147 | 5 => 5 | 9 => 9 | 218 => 226 | 222 => 230 | 228 => 234 | 229 => 171 | n => n, fun | n => n⟩
theorem Tryz.lays189 : Go.Proofs.Lays.n189 Tryz.prog Tryz.lays189_ren := {
  mixed := by kernel_rfl
  f125 := Tryz.func188.trans (congrArg some (by kernel_rfl))
  f128 := Tryz.func239.trans (congrArg some (by kernel_rfl))
  f129 := Tryz.func240.trans (congrArg some (by kernel_rfl))
  f189 := Tryz.func130.trans (congrArg some (by kernel_rfl))
  f215 := Tryz.func158.trans (congrArg some (by kernel_rfl))
  f216 := Tryz.func236.trans (congrArg some (by kernel_rfl))
  f257 := Tryz.func187.trans (congrArg some (by kernel_rfl))
  f294 := Tryz.func230.trans (congrArg some (by kernel_rfl))
  f295 := Tryz.func231.trans (congrArg some (by kernel_rfl))
  f296 := Tryz.func232.trans (congrArg some (by kernel_rfl))
  f297 := Tryz.func233.trans (congrArg some (by kernel_rfl))
  f298 := Tryz.func234.trans (congrArg some (by kernel_rfl))
  f299 := Tryz.func235.trans (congrArg some (by kernel_rfl))
  f300 := Tryz.func237.trans (congrArg some (by kernel_rfl))
  f301 := Tryz.func238.trans (congrArg some (by kernel_rfl))
  f328 := Tryz.func264.trans (congrArg some (by kernel_rfl))
  f329 := Tryz.func265.trans (congrArg some (by kernel_rfl))
  f330 := Tryz.func266.trans (congrArg some (by kernel_rfl))
  f331 := Tryz.func267.trans (congrArg some (by kernel_rfl))
  f332 := Tryz.func268.trans (congrArg some (by kernel_rfl))
  f343 := Tryz.func286.trans (congrArg some (by kernel_rfl))
  t0 := Tryz.underlying0
  a0 := Tryz.isAgg0
  z0 := Tryz.sizeOf0
  v0 := Tryz.zeroValue0
  t3 := Tryz.underlying3
  a3 := Tryz.isAgg3
  z3 := Tryz.sizeOf3
  v3 := Tryz.zeroValue3
  t4 := Tryz.underlying4
  a4 := Tryz.isAgg4
  z4 := Tryz.sizeOf4
  v4 := Tryz.zeroValue4
  t5 := Tryz.underlying5
  a5 := Tryz.isAgg5
  z5 := Tryz.sizeOf5
  v5 := Tryz.zeroValue5
  t9 := Tryz.underlying9
  a9 := Tryz.isAgg9
  z9 := Tryz.sizeOf9
  v9 := Tryz.zeroValue9
  t28 := Tryz.underlying26
  a28 := Tryz.isAgg26
  z28 := Tryz.sizeOf26
  v28 := Tryz.zeroValue26
  t46 := Tryz.underlying184
  a46 := Tryz.isAgg184
  z46 := Tryz.sizeOf184
  v46 := Tryz.zeroValue184
  t51 := Tryz.underlying217
  a51 := Tryz.isAgg217
  z51 := Tryz.sizeOf217
  v51 := Tryz.zeroValue217
  t53 := Tryz.underlying219
  a53 := Tryz.isAgg219
  z53 := Tryz.sizeOf219
  v53 := Tryz.zeroValue219
  t131 := Tryz.underlying147
  a131 := Tryz.isAgg147
  z131 := Tryz.sizeOf147
  v131 := Tryz.zeroValue147
  t182 := Tryz.underlying209
  a182 := Tryz.isAgg209
  z182 := Tryz.sizeOf209
  v182 := Tryz.zeroValue209
  t183 := Tryz.underlying210
  a183 := Tryz.isAgg210
  z183 := Tryz.sizeOf210
  v183 := Tryz.zeroValue210
  t218 := Tryz.underlying226
  a218 := Tryz.isAgg226
  z218 := Tryz.sizeOf226
  v218 := Tryz.zeroValue226
  t222 := Tryz.underlying230
  a222 := Tryz.isAgg230
  z222 := Tryz.sizeOf230
  v222 := Tryz.zeroValue230
  t228 := Tryz.underlying234
  a228 := Tryz.isAgg234
  z228 := Tryz.sizeOf234
  v228 := Tryz.zeroValue234
  t229 := Tryz.underlying171
  a229 := Tryz.isAgg171
  z229 := Tryz.sizeOf171
  v229 := Tryz.zeroValue171 }
def Tryz.laysNm215_ren : Go.Shelf.Ren := ⟨fun | 15 => 114 | n => n, fun | 22 => 26 | 3 => 3 | 4 => 4 | n => n, fun | n => n⟩
theorem Tryz.laysNm215 : Go.Proofs.Lays2.n15 Tryz.prog Tryz.laysNm215_ren := {
  mixed := by kernel_rfl
  f15 := Tryz.func114.trans (congrArg some (by kernel_rfl))
  t3 := Tryz.underlying3
  a3 := Tryz.isAgg3
  z3 := Tryz.sizeOf3
  v3 := Tryz.zeroValue3
  t4 := Tryz.underlying4
  a4 := Tryz.isAgg4
  z4 := Tryz.sizeOf4
  v4 := Tryz.zeroValue4
  t22 := Tryz.underlying26
  a22 := Tryz.isAgg26
  z22 := Tryz.sizeOf26
  v22 := Tryz.zeroValue26
  i3 := by kernel_rfl }
def Tryz.laysNm220_ren : Go.Shelf.Ren := ⟨fun | 20 => 131 | n => n, fun | 22 => 26 | 3 => 3 | 4 => 4 | 0 => 0 | n => n, fun | n => n⟩
theorem Tryz.laysNm220 : Go.Proofs.Lays2.n20 Tryz.prog Tryz.laysNm220_ren := {
  mixed := by kernel_rfl
  f20 := Tryz.func131.trans (congrArg some (by kernel_rfl))
  t0 := Tryz.underlying0
  a0 := Tryz.isAgg0
  z0 := Tryz.sizeOf0
  v0 := Tryz.zeroValue0
  t3 := Tryz.underlying3
  a3 := Tryz.isAgg3
  z3 := Tryz.sizeOf3
  v3 := Tryz.zeroValue3
  t4 := Tryz.underlying4
  a4 := Tryz.isAgg4
  z4 := Tryz.sizeOf4
  v4 := Tryz.zeroValue4
  t22 := Tryz.underlying26
  a22 := Tryz.isAgg26
  z22 := Tryz.sizeOf26
  v22 := Tryz.zeroValue26
  i3 := by kernel_rfl }
open Go.RowKit Go.Lib Go.Sort in
theorem Tryz.slices_Clone_int (b off n c : Nat) (zs : List Int) (w : World) (hz : n ≤ zs.length) (hbig : n * 8 ≤ 140737488355328) (hc : ∀ j, j < zs.length → w.cell? ⟨b, off + j, none⟩ = some (.int .i64 (zs.getD j 0))) :
    Calls Tryz.prog 114 #[.slice (some ⟨b, off, none⟩) n c] w fun e w' => ∃ v', e = .returned v' ∧ w'.ownsRow w.heap.size 3 1 v' n ((zs.take n).map (Value.int .i64)) ∧ v' ≠ .slice none 0 0 ∧ Below w.heap.size w w' := Any.slices_Clone_int Tryz.laysNm215 b off n c zs w hz hbig hc
open Go.RowKit Go.Lib Go.Sort in
theorem Tryz.slices_Sort_int (blk off cap : Nat) (zs : List Int) (w : World) (hH : Holds (Value.int .i64) w blk off zs.toArray) (hblk : blk < w.heap.size) (hsz : zs.length < 4611686018427387904) :
    Calls Tryz.prog 130 #[.slice (some ⟨blk, off, none⟩) zs.length cap] w fun e w' =>
      e = .returned (.tuple #[]) ∧ ∃ n os, w' = grow (putRow (Value.int .i64) (Sort.ahead w n) blk off (zs.mergeSort fun x y => decide (x ≤ y)).toArray) os := Any.slices_Sort_int Tryz.lays189 blk off cap zs w hH hblk hsz
open Go.RowKit Go.Lib Go.Sort in
theorem Tryz.slices_Compact_int (blk off cap : Nat) (zs : List Int) (w : World) (hH : Holds (Value.int .i64) w blk off zs.toArray) (hsz : zs.length ≤ 9223372036854775807) (hcap : zs.length ≤ cap) :
    Calls Tryz.prog 131 #[.slice (some ⟨blk, off, none⟩) zs.length cap] w fun e w' => e = .returned (.slice (some ⟨blk, off, none⟩) (Lib.compact zs).length cap) ∧ ∃ q, w' = putRow (Value.int .i64) (Sort.ahead w q) blk off (Lib.compact zs ++ List.replicate (zs.length - (Lib.compact zs).length) 0).toArray := Any.slices_Compact_int Tryz.laysNm220 blk off cap zs w hH hsz hcap
open Go.RowKit Go.Sort Go.Abs in
set_option maxRecDepth 100000 in
set_option maxHeartbeats 1000000 in
theorem Tryz.setOf_any (b off cap : Nat) (zs : List Int) (w : World) (h0 : 0 < zs.length) (h1 : zs.length ≤ 1000) (hcp : zs.length ≤ cap) (hc : ∀ j, j < zs.length → w.cell? ⟨b, off + j, none⟩ = some (.int .i64 (zs.getD j 0))) :
    Calls Tryz.prog 58 #[.slice (some ⟨b, off, none⟩) zs.length cap] w fun e w' => ∃ g cap', e = .returned (.slice (some ⟨g, 0, none⟩) (setLL zs).length cap') ∧
      w'.ownsRow w.heap.size 3 1 (.slice (some ⟨g, 0, none⟩) (setLL zs).length cap') (setLL zs).length ((setLL zs).map (Value.int .i64)) ∧ Below w.heap.size w w' := by
  have hclone := Tryz.slices_Clone_int b off zs.length cap zs w (Nat.le_refl _) (by omega) hc
  rw [List.take_length] at hclone
  clear hc
  obtain ⟨S, hS⟩ : ∃ S : List Int, S = zs.mergeSort fun x y => decide (x ≤ y) := ⟨_, rfl⟩
  have hSl : S.length = zs.length := by rw [hS, List.length_mergeSort]
  have hZ : setLL zs = Lib.compact S := by unfold setLL; rw [hS]
  have XZ : Aside (S.length = zs.length ∧ setLL zs = Lib.compact S ∧ 0 < zs.length ∧ zs.length ≤ 1000) := ⟨hSl, hZ, h0, h1⟩
  clear hSl hZ h0 h1 hcp
  go_enter Tryz.func58, Tryz.ntmps58
  go_wp2_with (first
    | (go_at_call 114; refine hclone.mono ?_; rintro e w1 ⟨v1, rfl, hown, hnn, hbel⟩
       obtain ⟨g, cap1, rfl, hbg, hgl, hncap, hcm, hlen, hH⟩ := Lib.holds_of_ownsRow hown hnn
       have hsort := Tryz.slices_Sort_int g 0 cap1 zs w1 hH hgl (by have := XZ.out.2.2.2; omega)
       rw [← hS] at hsort
       have X : Aside (w1.ownsRow w.heap.size 3 1 (.slice (some ⟨g, 0, none⟩) zs.length cap1) zs.length (zs.map (Value.int .i64)) ∧ Below w.heap.size w w1 ∧ w.heap.size ≤ g ∧ g < w1.heap.size ∧ Holds (Value.int .i64) w1 g 0 zs.toArray ∧ zs.length ≤ cap1) := ⟨hown, hbel, hbg, hgl, hH, hncap⟩
       clear hown hbel hH hnn hlen hclone hcm hbg hgl hncap)
    | (go_at_call 130; refine hsort.mono ?_; rintro e w2 ⟨rfl, nn, os, hw2⟩
       have Y : Aside (w2.ownsRow w.heap.size 3 1 (.slice (some ⟨g, 0, none⟩) zs.length cap1) zs.length (S.map (Value.int .i64)) ∧ Below w.heap.size w w2 ∧ Holds (Value.int .i64) w2 g 0 S.toArray) := set_sorted XZ.out.1 X.out.1 X.out.2.1 X.out.2.2.1 X.out.2.2.2.1 X.out.2.2.2.2.1 hw2
       have hcomp := Tryz.slices_Compact_int g 0 cap1 S w2 Y.out.2.2 (by have := XZ.out; omega) (by have := XZ.out; have := X.out.2.2.2.2.2; omega)
       rw [XZ.out.1] at hcomp
       clear hw2 hsort)
    | (go_at_call 131; refine hcomp.mono ?_; rintro e w3 ⟨rfl, q, hw3⟩
       rw [← XZ.out.1] at hw3
       have V : Aside (w3.ownsRow w.heap.size 3 1 (.slice (some ⟨g, 0, none⟩) (Lib.compact S).length cap1) (Lib.compact S).length ((Lib.compact S).map (Value.int .i64)) ∧ Below w.heap.size w w3) := set_cut XZ.out.1 Y.out.1 Y.out.2.1 X.out.2.2.1 hw3
       clear hw3 hcomp))
  go_ret
  rw [XZ.out.2.1]
  refine ⟨g, cap1, ?_, V.out.1, V.out.2⟩
  rw [hS]
  rfl
end Go.Proofs
