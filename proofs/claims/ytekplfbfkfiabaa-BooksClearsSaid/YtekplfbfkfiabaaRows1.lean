/- What a slice of integers that came in reads as. -/
import Derived.Test.YtekplfbfkfiabaaBase
import Derived.OpenShut
namespace Go.Proofs.Ytekplfbfkfiabaa
open Go.RowKit
set_option linter.unusedVariables false

theorem ints_in (w : World) (a : Option Addr) (len cap : Nat) (zs : List Int)
    (h : (a = none ∧ len = 0 ∧ cap = 0 ∧ zs = []) ∨
      ∃ x, a = some x ∧ len ≤ cap ∧ cap ≤ maxLen ∧ zs.length = cap ∧ (∀ i, i < zs.length → w.cell? (x.add i) = some (.int .i64 (zs.getD i 0))) ∧ ∀ n ∈ zs, (Lit.int .i64 n).wf = true) :
    ∃ xs : List Int, xs.length = len ∧ Ints w (.slice a len cap) xs ∧ ∀ n ∈ xs, I64 n := by
  rcases h with ⟨rfl, rfl, rfl, rfl⟩ | ⟨x, rfl, hl, hm, hz, hc, hw⟩
  · exact ⟨[], rfl, Sl.nil w, fun n hn => by cases hn⟩
  · have hlen : (zs.take len).length = len := by rw [List.length_take]; omega
    refine ⟨zs.take len, hlen, ?_, fun n hn => ?_⟩
    · unfold maxLen at hm
      refine ⟨by rw [List.length_map, hlen]; omega, some x, cap, by rw [List.length_map, hlen], fun h => (by cases h), fun h0 => ?_⟩
      have h0' : 0 < len := by rw [List.length_map, hlen] at h0; exact h0
      have hx := hc 0 (by omega)
      obtain ⟨b, o, sp⟩ := x
      have hsp : sp = none := by
        unfold Addr.add World.cell? at hx
        simp only [if_true] at hx
        cases hh : w.heap[b]? with
        | none => rw [hh] at hx; cases hx
        | some ob =>
          rw [hh] at hx
          cases ob <;> simp at hx
          cases sp with
          | none => rfl
          | some _ => simp at hx
      subst hsp
      refine ⟨b, o, rfl, fun i u hu => ?_⟩
      rw [List.getElem?_map] at hu
      obtain ⟨y, hy, rfl⟩ := Option.map_eq_some_iff.1 hu
      obtain ⟨hi, rfl⟩ := List.getElem?_eq_some_iff.1 hy
      have hi' : i < zs.length := by rw [hlen] at hi; omega
      have h1 := hc i hi'
      have hadd : (⟨b, o, none⟩ : Addr).add i = ⟨b, o + i, none⟩ := by unfold Addr.add; split <;> simp_all
      rw [hadd] at h1
      rw [h1, List.getElem_take]
      simp [List.getD, hi']
    · exact bounds_i64 (hw n (List.mem_of_mem_take hn))
end Go.Proofs.Ytekplfbfkfiabaa
