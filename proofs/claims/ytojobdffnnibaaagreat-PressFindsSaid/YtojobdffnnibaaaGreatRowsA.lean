/- A list of actions that came in. -/
import Derived.Test.YtojobdffnnibaaaGreatRows7
import Derived.Test.YtojobdffnnibaaaGreatPProg
namespace Go.Proofs.YtojobdffnnibaaaGreat
open Go.RowKit Go.ChangeShapes
set_option linter.unusedVariables false

theorem cells2 {w : World} {base : Nat} {a : Addr} {cs : List Value} (h : w.cells? base a 2 = some cs) : ∃ c0 c1, cs = [c0, c1] ∧ w.cell? (a.add 0) = some c0 ∧ w.cell? (a.add 1) = some c1 := by
  unfold World.cells? at h
  split at h
  · have r5 : List.range 2 = [0, 1] := rfl
    rw [r5] at h
    simp only [List.mapM_cons, List.mapM_nil, bind, Option.bind_eq_some_iff, pure, Option.some.injEq] at h
    obtain ⟨c0, h0, _, ⟨c1, h1, _, rfl, rfl⟩, rfl⟩ := h
    exact ⟨c0, c1, rfl, h0, h1⟩
  · cases h
theorem trod_struct2 {H : Type} {enc : TypeId × Value → H} {P : Program} {w : World} {base : Nat} {spare : Nat → Bool} {held : Bool} {t : TypeId} {f0 f1 : Field} {fuel : Nat} {cs : List Value} {x : DataW H × List MemPlace} (ht : P.underlying t = some (.struct #[f0, f1])) (h : DataW.trod enc P w base spare held fuel t cs = some x) :
    ∃ y0 y1 n, DataW.trod enc P w base spare held n f0.type ((cs.drop f0.offset).take (P.cellsOf f0.type)) = some y0 ∧ DataW.trod enc P w base spare held n f1.type ((cs.drop f1.offset).take (P.cellsOf f1.type)) = some y1 := by
  obtain ⟨xs, n, _, rfl, hl, hlen, hf⟩ := DataW.trod_struct ht h
  match xs, hlen with
  | [y0, y1], _ => exact ⟨y0, y1, n, by simpa using hf 0 f0 rfl, by simpa using hf 1 f1 rfl⟩
theorem actions_in {H : Type} {enc : TypeId × Value → H} {w : World} {base : Nat} {spare : Nat → Bool} {held : Bool} {fuel len cap : Nat} {a : Option Addr} {x : DataW H × List MemPlace}
    (hf : DataW.trod enc Tryz.prog w base spare held fuel 30 [.slice a len cap] = some x) : ∃ us : List (Int × Int), us.length = len ∧ AcIn w (.slice a len cap) us ∧ ∀ u ∈ us, I64 u.1 := by
  rcases DataW.trod_slice Tryz.underlying30 hf with ⟨hcs, _⟩ | ⟨a, len', cap', elems, rest, n, _, hcs, _, hb, hl, hm, hlen, hel, hsp, hns⟩
  · simp at hcs
    obtain ⟨rfl, rfl, rfl⟩ := hcs
    exact ⟨[], rfl, ⟨by simp, none, 0, rfl, fun h => by simp at h⟩, fun x hx => by cases hx⟩
  · simp at hcs
    obtain ⟨rfl, rfl, rfl⟩ := hcs
    have hce : Tryz.prog.cellsOf 66 = 2 := by kernel_rfl
    have hc1 : Tryz.prog.cellsOf 3 = 1 := by kernel_rfl
    unfold maxLen at hm
    have each : ∀ i, i < len → ∃ f : Int × Int, (w.cell? ((a.add (i * 2)).add 0) = some (.int .i64 f.1) ∧ w.cell? ((a.add (i * 2)).add 1) = some (.int .i64 f.2)) ∧ I64 f.1 := fun i hi => by
      have h1 := hel i hi
      rw [hce, List.getElem?_eq_getElem (by omega), Option.bind_eq_some_iff] at h1
      obtain ⟨cs, h2, h3⟩ := h1
      obtain ⟨c0, c1, rfl, k0, k1⟩ := cells2 h2
      obtain ⟨y0, y1, m, t0, t1⟩ := trod_struct2 Tryz.underlying66 h3
      obtain ⟨n0, e0, _, w0⟩ := DataW.trod_int Tryz.underlying3 t0
      obtain ⟨n1, e1, _, w1⟩ := DataW.trod_int Tryz.underlying3 t1
      rw [hc1] at e0 e1
      simp at e0 e1
      subst e0 e1
      exact ⟨⟨n0, n1⟩, ⟨k0, k1⟩, bounds_i64 w0⟩
    have hchoose : ∃ f : Nat → Int × Int, ∀ i, i < len → (w.cell? ((a.add (i * 2)).add 0) = some (.int .i64 (f i).1) ∧ w.cell? ((a.add (i * 2)).add 1) = some (.int .i64 (f i).2)) ∧ I64 (f i).1 :=
      ⟨fun i => if h : i < len then Classical.choose (each i h) else default, fun i hi => by dsimp only; rw [dif_pos hi]; exact Classical.choose_spec (each i hi)⟩
    obtain ⟨f, hf0⟩ := hchoose
    refine ⟨(List.range len).map f, by simp, ⟨by simp; omega, some a, cap, by simp, fun h0 => ?_⟩, fun x hx => ?_⟩
    · have h0' : 0 < len := by simpa using h0
      obtain ⟨b, o, sp⟩ := a
      have h00 := (hf0 0 h0').1.1
      have e0 : (((⟨b, o, sp⟩ : Addr).add (0 * 2)).add 0) = ⟨b, o, sp⟩ := by unfold Addr.add; simp
      rw [e0] at h00
      have hs : sp = none := spot7_none h00
      subst hs
      refine ⟨b, o, rfl, fun i hi => ?_⟩
      have hi' : i < len := by simpa using hi
      have h1 := (hf0 i hi').1
      rw [add7_add, add7_add] at h1
      simpa using h1
    · obtain ⟨i, hi, rfl⟩ := List.mem_map.1 hx
      exact (hf0 i (by simpa using hi)).2
end Go.Proofs.YtojobdffnnibaaaGreat
