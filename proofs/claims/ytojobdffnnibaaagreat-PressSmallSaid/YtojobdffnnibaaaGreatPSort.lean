/- The library's sort of a slice of ints, at a row of the call's own. -/
import Derived.Test.YtojobdffnnibaaaGreatBase
import Derived.Test.YtojobdffnnibaaaGreatKit
import Derived.Shelf.Sort.Plain
import Derived.Sort.OwnSortedInts
namespace Go.Proofs.YtojobdffnnibaaaGreat
open Go.RowKit Go.Shelf Go.Sort
set_option linter.unusedVariables false
/-- The numbers of this program for those of the contract's own. -/
def sortRen : Ren :=
 { f := fun x => match x with
   | 189 => 45
   | 125 => 75
   | 257 => 74
   | 128 => 120
   | 129 => 121
   | 294 => 111
   | 295 => 112
   | 296 => 113
   | 297 => 114
   | 298 => 115
   | 299 => 116
   | 216 => 117
   | 300 => 118
   | 301 => 119
   | 328 => 124
   | 329 => 125
   | 330 => 126
   | 331 => 127
   | 332 => 128
   | 215 => 129
   | 343 => 131
   | n => n
   t := fun x => match x with
   | 28 => 31
   | 3 => 3
   | 46 => 160
   | 0 => 0
   | 51 => 183
   | 53 => 185
   | 4 => 4
   | 183 => 175
   | 182 => 174
   | 131 => 180
   | 5 => 5
   | 9 => 9
   | 218 => 187
   | 222 => 68
   | 228 => 194
   | 229 => 163
   | n => n
   g := fun x => x }
theorem sortLays : Lays.n189 Tryz.prog sortRen where
 mixed := by kernel_rfl
 f125 := Eq.trans Tryz.func75 (congrArg some (by kernel_rfl))
 f128 := Eq.trans Tryz.func120 (congrArg some (by kernel_rfl))
 f129 := Eq.trans Tryz.func121 (congrArg some (by kernel_rfl))
 f189 := Eq.trans Tryz.func45 (congrArg some (by kernel_rfl))
 f215 := Eq.trans Tryz.func129 (congrArg some (by kernel_rfl))
 f216 := Eq.trans Tryz.func117 (congrArg some (by kernel_rfl))
 f257 := Eq.trans Tryz.func74 (congrArg some (by kernel_rfl))
 f294 := Eq.trans Tryz.func111 (congrArg some (by kernel_rfl))
 f295 := Eq.trans Tryz.func112 (congrArg some (by kernel_rfl))
 f296 := Eq.trans Tryz.func113 (congrArg some (by kernel_rfl))
 f297 := Eq.trans Tryz.func114 (congrArg some (by kernel_rfl))
 f298 := Eq.trans Tryz.func115 (congrArg some (by kernel_rfl))
 f299 := Eq.trans Tryz.func116 (congrArg some (by kernel_rfl))
 f300 := Eq.trans Tryz.func118 (congrArg some (by kernel_rfl))
 f301 := Eq.trans Tryz.func119 (congrArg some (by kernel_rfl))
 f328 := Eq.trans Tryz.func124 (congrArg some (by kernel_rfl))
 f329 := Eq.trans Tryz.func125 (congrArg some (by kernel_rfl))
 f330 := Eq.trans Tryz.func126 (congrArg some (by kernel_rfl))
 f331 := Eq.trans Tryz.func127 (congrArg some (by kernel_rfl))
 f332 := Eq.trans Tryz.func128 (congrArg some (by kernel_rfl))
 f343 := Eq.trans Tryz.func131 (congrArg some (by kernel_rfl))
 t0 := Tryz.underlying0
 a0 := Tryz.isAgg0
 z0 := Tryz.sizeOf0
 v0 := Tryz.zeroValue0
 t3 := Tryz.underlying3
 a3 := Tryz.isAgg3
 z3 := Tryz.sizeOf3
 v3 := Tryz.zeroValue3
 t4 := Tryz.underlying4
 a4 := Tryz.isAgg4
 z4 := Tryz.sizeOf4
 v4 := Tryz.zeroValue4
 t5 := Tryz.underlying5
 a5 := Tryz.isAgg5
 z5 := Tryz.sizeOf5
 v5 := Tryz.zeroValue5
 t9 := Tryz.underlying9
 a9 := Tryz.isAgg9
 z9 := Tryz.sizeOf9
 v9 := Tryz.zeroValue9
 t28 := Tryz.underlying31
 a28 := Tryz.isAgg31
 z28 := Tryz.sizeOf31
 v28 := Tryz.zeroValue31
 t46 := Tryz.underlying160
 a46 := Tryz.isAgg160
 z46 := Tryz.sizeOf160
 v46 := Tryz.zeroValue160
 t51 := Tryz.underlying183
 a51 := Tryz.isAgg183
 z51 := Tryz.sizeOf183
 v51 := Tryz.zeroValue183
 t53 := Tryz.underlying185
 a53 := Tryz.isAgg185
 z53 := Tryz.sizeOf185
 v53 := Tryz.zeroValue185
 t131 := Tryz.underlying180
 a131 := Tryz.isAgg180
 z131 := Tryz.sizeOf180
 v131 := Tryz.zeroValue180
 t182 := Tryz.underlying174
 a182 := Tryz.isAgg174
 z182 := Tryz.sizeOf174
 v182 := Tryz.zeroValue174
 t183 := Tryz.underlying175
 a183 := Tryz.isAgg175
 z183 := Tryz.sizeOf175
 v183 := Tryz.zeroValue175
 t218 := Tryz.underlying187
 a218 := Tryz.isAgg187
 z218 := Tryz.sizeOf187
 v218 := Tryz.zeroValue187
 t222 := Tryz.underlying68
 a222 := Tryz.isAgg68
 z222 := Tryz.sizeOf68
 v222 := Tryz.zeroValue68
 t228 := Tryz.underlying194
 a228 := Tryz.isAgg194
 z228 := Tryz.sizeOf194
 v228 := Tryz.zeroValue194
 t229 := Tryz.underlying163
 a229 := Tryz.isAgg163
 z229 := Tryz.sizeOf163
 v229 := Tryz.zeroValue163
theorem sort_any {B n c : Nat} {a : Option Addr} (xs : List Int) (w : World) (ho : w.ownsRow B 3 1 (.slice a n c) n (xs.map (Value.int .i64))) (hn : xs.length = n) (h0 : 0 < n) (hl : n ≤ 1000000) :
 Calls Tryz.prog 45 #[.slice a n c] w fun e w' => e = .returned (.tuple #[]) ∧ w'.ownsRow B 3 1 (.slice a n c) n ((xs.mergeSort fun x y => decide (x ≤ y)).map (Value.int .i64)) ∧ Only (fun b => (Value.slice a n c).ownBlock = some b) w w' := by
 subst hn
 rcases ho.2 with ⟨_, h⟩ | ⟨g, cap, cur, hv, hB, hb, h1, h2, h3, h4⟩
 omega
 cases hv
 have hH := holds_of_blockI (ss := xs) hb (by rw [Nat.mul_one] at h4; exact h4); refine (Any.slices_Sort_int sortLays g 0 c xs w hH (blk_lt hb) (by omega)).mono fun e w' ⟨he, m, os, hw⟩ => ?_; subst hw; refine ⟨he, ownsRow_sortedI (by simp) hB hb h1 h2 h3, only_grown (v := .slice (some ⟨g, 0, none⟩) xs.length c) (grownBy_sortedI _)⟩
end Go.Proofs.YtojobdffnnibaaaGreat