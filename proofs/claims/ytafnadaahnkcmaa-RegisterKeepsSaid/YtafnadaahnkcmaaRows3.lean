/- What a slice of arrays of three integers that came in reads as. -/
import Derived.Test.YtafnadaahnkcmaaBase
import Derived.OpenShut
import Derived.Laws.IdiomArrays
namespace Go.Proofs.Ytafnadaahnkcmaa
open Go.RowKit Go.ChangeShapes
set_option linter.unusedVariables false

/-- The loops that came in: rows of three numbers. -/
def LIn (w : World) (a : Option Addr) (n : Nat) (z : Nat → Nat → Int) : Prop :=
  0 < n → ∃ b o, a = some ⟨b, o, none⟩ ∧ ∀ i j, i < n → j < 3 → w.cell? ⟨b, o + i * 3 + j, none⟩ = some (.int .i64 (z i j))

theorem cells3 {w : World} {base : Nat} {a : Addr} {cs : List Value} (h : w.cells? base a 3 = some cs) : ∃ c0 c1 c2, cs = [c0, c1, c2] ∧ w.cell? (a.add 0) = some c0 ∧ w.cell? (a.add 1) = some c1 ∧ w.cell? (a.add 2) = some c2 := by
  unfold World.cells? at h
  split at h
  · have r3 : List.range 3 = [0, 1, 2] := rfl
    rw [r3] at h
    simp only [List.mapM_cons, List.mapM_nil, bind, Option.bind_eq_some_iff, pure, Option.some.injEq] at h
    obtain ⟨c0, h0, _, ⟨c1, h1, _, ⟨c2, h2, _, rfl, rfl⟩, rfl⟩, rfl⟩ := h
    exact ⟨c0, c1, c2, rfl, h0, h1, h2⟩
  · cases h

theorem spot_none {w : World} {a : Addr} {v : Value} (h : w.cell? a = some v) : a.spot = none := by
  unfold World.cell? at h
  split at h
  · split at h
    · cases h
    · rename_i hs; simpa using hs
  · cases h

theorem add_add (b o m j : Nat) : (((⟨b, o, none⟩ : Addr).add m).add j) = ⟨b, o + m + j, none⟩ := by
  unfold Addr.add
  by_cases h1 : m = 0
  · by_cases h2 : j = 0
    · simp [h1, h2]
    · simp [h1, h2]
  · by_cases h2 : j = 0
    · simp [h1, h2]
    · simp [h1, h2]

theorem loops3_in {H : Type} {enc : TypeId × Value → H} {w : World} {base : Nat} {spare : Nat → Bool} {held : Bool} {fuel len cap : Nat} {a : Option Addr} {x : DataW H × List MemPlace}
    (hf : DataW.trod enc Try.prog w base spare held fuel 51 [.slice a len cap] = some x) : len ≤ 9223372036854775807 ∧ ∃ z : Nat → Nat → Int, LIn w a len z ∧ ∀ i j, I64 (z i j) := by
  rcases DataW.trod_slice Try.underlying51 hf with ⟨hcs, _⟩ | ⟨a, len', cap', elems, rest, n, _, hcs, _, hb, hl, hm, hlen, hel, hsp, hns⟩
  · simp at hcs
    obtain ⟨rfl, rfl, rfl⟩ := hcs
    exact ⟨by omega, fun _ _ => 0, fun h => by omega, fun _ _ => by unfold I64; dsimp only; omega⟩
  · simp at hcs
    obtain ⟨rfl, rfl, rfl⟩ := hcs
    have hce : Try.prog.cellsOf 54 = 3 := by kernel_rfl
    have hc1 : Try.prog.cellsOf 3 = 1 := by kernel_rfl
    unfold maxLen at hm
    have each : ∀ i, i < len → ∃ f : Nat → Int, (∀ j, j < 3 → w.cell? ((a.add (i * 3)).add j) = some (.int .i64 (f j))) ∧ ∀ j, I64 (f j) := fun i hi => by
      have h1 := hel i hi
      rw [hce, List.getElem?_eq_getElem (by omega), Option.bind_eq_some_iff] at h1
      obtain ⟨cs, h2, h3⟩ := h1
      obtain ⟨c0, c1, c2, rfl, k0, k1, k2⟩ := cells3 h2
      obtain ⟨y0, y1, y2, m, _, t0, t1, t2⟩ := trod_array3 Try.underlying54 hc1 h3
      obtain ⟨n0, e0, _, w0⟩ := DataW.trod_int Try.underlying3 t0
      obtain ⟨n1, e1, _, w1⟩ := DataW.trod_int Try.underlying3 t1
      obtain ⟨n2, e2, _, w2⟩ := DataW.trod_int Try.underlying3 t2
      simp at e0 e1 e2
      subst e0 e1 e2
      refine ⟨fun j => if j = 0 then n0 else if j = 1 then n1 else n2, fun j hj => ?_, fun j => ?_⟩
      · have : j = 0 ∨ j = 1 ∨ j = 2 := by omega
        rcases this with rfl | rfl | rfl
        · simpa using k0
        · simpa using k1
        · simpa using k2
      · dsimp only
        split
        · exact bounds_i64 w0
        · split
          · exact bounds_i64 w1
          · exact bounds_i64 w2
    refine ⟨by omega, fun i => if h : i < len then Classical.choose (each i h) else fun _ => 0, fun h0 => ?_, fun i j => ?_⟩
    · obtain ⟨f, hf0, _⟩ := each 0 h0
      obtain ⟨b, o, sp⟩ := a
      have h00 := hf0 0 (by omega)
      have e0 : (((⟨b, o, sp⟩ : Addr).add (0 * 3)).add 0) = ⟨b, o, sp⟩ := by unfold Addr.add; simp
      rw [e0] at h00
      have hs : sp = none := spot_none h00
      subst hs
      refine ⟨b, o, rfl, fun i j hi hj => ?_⟩
      dsimp only
      rw [dif_pos hi]
      have h1 := (Classical.choose_spec (each i hi)).1 j hj
      rwa [add_add] at h1
    · dsimp only
      by_cases hi : i < len
      · rw [dif_pos hi]; exact (Classical.choose_spec (each i hi)).2 j
      · rw [dif_neg hi]; unfold I64; omega
end Go.Proofs.Ytafnadaahnkcmaa
