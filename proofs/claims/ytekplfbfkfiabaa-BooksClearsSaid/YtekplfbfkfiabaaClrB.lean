/- A row of numbers with room behind it, in memory. -/
import Derived.Test.YtekplfbfkfiabaaClrA
namespace Go.Proofs.Ytekplfbfkfiabaa
open Go.RowKit Go.Shelf
set_option linter.unusedVariables false
set_option linter.unusedSimpArgs false

def RowI (W : World) (pl : Nat) (xs : List Int) : Prop := ∃ cs, Blk W pl cs 3 ∧ xs.length ≤ cs.size ∧ ∀ i, i < xs.length → cs[i]? = some (.int .i64 (gI xs i))
section
variable {W W' : World} {pl : Nat} {xs : List Int}
theorem RowI.ext (h : RowI W pl xs) (k : Ext W W') : RowI W' pl xs := let ⟨cs, h1, h2, h3⟩ := h; ⟨cs, h1.ext k, h2, h3⟩
theorem RowI.only {S : Nat → Prop} (h : RowI W pl xs) (k : Only S W W') (hs : ¬ S pl) : RowI W' pl xs := let ⟨cs, h1, h2, h3⟩ := h; ⟨cs, h1.only k hs, h2, h3⟩
theorem RowI.lt (h : RowI W pl xs) : pl < W.heap.size := let ⟨cs, h1, _, _⟩ := h; h1.lt
theorem RowI.cell (h : RowI W pl xs) {i : Nat} (hi : i < xs.length) : W.cell? ⟨pl, i, none⟩ = some (.int .i64 (gI xs i)) := let ⟨cs, h1, h2, h3⟩ := h; by rw [h1.cell, h3 i hi]
theorem RowI.set_cs {cs : Array Value} (h2 : xs.length ≤ cs.size) (h3 : ∀ i, i < xs.length → cs[i]? = some (.int .i64 (gI xs i))) {j : Nat} (hj : j < xs.length) (x : Int) :
    (xs.set j x).length ≤ (cs.setIfInBounds j (.int .i64 x)).size ∧ ∀ i, i < (xs.set j x).length → (cs.setIfInBounds j (.int .i64 x))[i]? = some (.int .i64 (gI (xs.set j x) i)) := by
  refine ⟨by simpa using h2, fun i hi => ?_⟩
  rw [List.length_set] at hi
  by_cases e : i = j
  · subst e
    rw [gI_setS _ hj, Array.getElem?_setIfInBounds_self_of_lt (by omega)]
  · rw [gI_setO _ e, Array.getElem?_setIfInBounds_ne (fun h => e h.symm), h3 i hi]
theorem RowI.of_owns {base : Nat} {v : Value} (h : W.ownsRow base 3 1 v xs.length (xs.map (.int .i64))) (h0 : 0 < xs.length) : ∃ pl cap, v = .slice (some ⟨pl, 0, none⟩) xs.length cap ∧ base ≤ pl ∧ RowI W pl xs := by
  rcases h.2 with ⟨_, e0⟩ | ⟨g, cap, cur, hv, hg, hh, h1, h2, h3, h4⟩
  · omega
  · refine ⟨g, cap, hv, hg, cur, hh, by omega, fun i hi => ?_⟩
    rw [Nat.mul_one] at h4
    have h5 : (cur.toList.take xs.length)[i]? = (xs.map (Value.int .i64))[i]? := by rw [h4]
    rw [List.getElem?_take_of_lt hi, Array.getElem?_toList] at h5
    rw [h5, List.getElem?_map, List.getElem?_eq_getElem hi, gI_get hi]
    rfl
theorem RowI.ints (h : RowI W pl xs) (cap : Nat) (hb : xs.length ≤ 1000000) : Ints W (.slice (some ⟨pl, 0, none⟩) xs.length cap) xs := by
  refine ⟨by simp; omega, some ⟨pl, 0, none⟩, cap, by simp, (fun e => nomatch e), fun h0 => ⟨pl, 0, rfl, fun i u hi => ?_⟩⟩
  rw [List.getElem?_map] at hi
  rcases hg : xs[i]? with _ | x
  · rw [hg] at hi; cases hi
  · rw [hg] at hi
    cases hi
    obtain ⟨hlt, hx⟩ := List.getElem?_eq_some_iff.1 hg
    rw [Nat.zero_add, h.cell hlt, gI_get hlt, hx]
end
end Go.Proofs.Ytekplfbfkfiabaa
