/- What a slice of the reference's loops that came in reads as, and a slice of slices of integers. -/
import Derived.Test.YtafnadaahnkcmaaDkC
import Derived.Test.YtafnadaahnkcmaaRows1
import Derived.OpenShut
import Derived.Lib.SmallJoins
import Derived.Deep.Matrix
namespace Go.Proofs.Ytafnadaahnkcmaa
open Go.RowKit Go.ChangeShapes
set_option linter.unusedVariables false

theorem cells4 {w : World} {base : Nat} {a : Addr} {cs : List Value} (h : w.cells? base a 4 = some cs) : ∃ c0 c1 c2 c3, cs = [c0, c1, c2, c3] ∧ w.cell? (a.add 0) = some c0 ∧ w.cell? (a.add 1) = some c1 ∧ w.cell? (a.add 2) = some c2 ∧ w.cell? (a.add 3) = some c3 := by
  unfold World.cells? at h
  split at h
  · have r4 : List.range 4 = [0, 1, 2, 3] := rfl
    rw [r4] at h
    simp only [List.mapM_cons, List.mapM_nil, bind, Option.bind_eq_some_iff, pure, Option.some.injEq] at h
    obtain ⟨c0, h0, _, ⟨c1, h1, _, ⟨c2, h2, _, ⟨c3, h3, _, rfl, rfl⟩, rfl⟩, rfl⟩, rfl⟩ := h
    exact ⟨c0, c1, c2, c3, rfl, h0, h1, h2, h3⟩
  · cases h

theorem spot4_none {w : World} {a : Addr} {v : Value} (h : w.cell? a = some v) : a.spot = none := by
  unfold World.cell? at h
  split at h
  · split at h
    · cases h
    · rename_i hs; simpa using hs
  · cases h

theorem add4_add (b o m j : Nat) : (((⟨b, o, none⟩ : Addr).add m).add j) = ⟨b, o + m + j, none⟩ := by
  unfold Addr.add
  by_cases h1 : m = 0
  · by_cases h2 : j = 0
    · simp [h1, h2]
    · simp [h1, h2]
  · by_cases h2 : j = 0
    · simp [h1, h2]
    · simp [h1, h2]

theorem loops4_in {H : Type} {enc : TypeId × Value → H} {w : World} {base : Nat} {spare : Nat → Bool} {held : Bool} {fuel len cap : Nat} {a : Option Addr} {x : DataW H × List MemPlace}
    (hf : DataW.trod enc Try.prog w base spare held fuel 67 [.slice a len cap] = some x) : ∃ l : List Loop, l.length = len ∧ LoopsIn w (.slice a len cap) l ∧ ∀ x ∈ l, I64 x.dead ∧ I64 x.noise ∧ I64 x.blur ∧ I64 x.step := by
  rcases DataW.trod_slice Try.underlying67 hf with ⟨hcs, _⟩ | ⟨a, len', cap', elems, rest, n, _, hcs, _, hb, hl, hm, hlen, hel, hsp, hns⟩
  · simp at hcs
    obtain ⟨rfl, rfl, rfl⟩ := hcs
    exact ⟨[], rfl, ⟨by simp, none, 0, rfl, fun h => by simp at h⟩, fun x hx => by cases hx⟩
  · simp at hcs
    obtain ⟨rfl, rfl, rfl⟩ := hcs
    have hce : Try.prog.cellsOf 105 = 4 := by kernel_rfl
    have hc1 : Try.prog.cellsOf 3 = 1 := by kernel_rfl
    unfold maxLen at hm
    have each : ∀ i, i < len → ∃ f : Loop, (∀ j, j < 4 → w.cell? ((a.add (i * 4)).add j) = (#[Value.int .i64 f.dead, .int .i64 f.noise, .int .i64 f.blur, .int .i64 f.step] : Array Value)[j]?) ∧ (I64 f.dead ∧ I64 f.noise ∧ I64 f.blur ∧ I64 f.step) := fun i hi => by
      have h1 := hel i hi
      rw [hce, List.getElem?_eq_getElem (by omega), Option.bind_eq_some_iff] at h1
      obtain ⟨cs, h2, h3⟩ := h1
      obtain ⟨c0, c1, c2, c3, rfl, k0, k1, k2, k3⟩ := cells4 h2
      obtain ⟨y0, y1, y2, y3, m, _, _, t0, t1, t2, t3⟩ := Go.Joins.trod_struct4 Try.underlying105 h3
      obtain ⟨n0, e0, _, w0⟩ := DataW.trod_int Try.underlying3 t0
      obtain ⟨n1, e1, _, w1⟩ := DataW.trod_int Try.underlying3 t1
      obtain ⟨n2, e2, _, w2⟩ := DataW.trod_int Try.underlying3 t2
      obtain ⟨n3, e3, _, w3⟩ := DataW.trod_int Try.underlying3 t3
      rw [hc1] at e0 e1 e2 e3
      simp at e0 e1 e2 e3
      subst e0 e1 e2 e3
      refine ⟨⟨n0, n1, n2, n3⟩, fun j hj => ?_, bounds_i64 w0, bounds_i64 w1, bounds_i64 w2, bounds_i64 w3⟩
      have : j = 0 ∨ j = 1 ∨ j = 2 ∨ j = 3 := by omega
      rcases this with rfl | rfl | rfl | rfl
      · simpa using k0
      · simpa using k1
      · simpa using k2
      · simpa using k3
    have hchoose : ∃ f : Nat → Loop, ∀ i, i < len → (∀ j, j < 4 → w.cell? ((a.add (i * 4)).add j) = (#[Value.int .i64 (f i).dead, .int .i64 (f i).noise, .int .i64 (f i).blur, .int .i64 (f i).step] : Array Value)[j]?) ∧ (I64 (f i).dead ∧ I64 (f i).noise ∧ I64 (f i).blur ∧ I64 (f i).step) :=
      ⟨fun i => if h : i < len then Classical.choose (each i h) else default, fun i hi => by dsimp only; rw [dif_pos hi]; exact Classical.choose_spec (each i hi)⟩
    obtain ⟨f, hf0⟩ := hchoose
    refine ⟨(List.range len).map f, by simp, ⟨by simp; omega, some a, cap, by simp, fun h0 => ?_⟩, fun x hx => ?_⟩
    · have h0' : 0 < len := by simpa using h0
      obtain ⟨b, o, sp⟩ := a
      have h00 := (hf0 0 h0').1 0 (by omega)
      have e0 : (((⟨b, o, sp⟩ : Addr).add (0 * 4)).add 0) = ⟨b, o, sp⟩ := by unfold Addr.add; simp
      rw [e0] at h00
      have hs : sp = none := spot4_none (v := .int .i64 (f 0).dead) h00
      subst hs
      refine ⟨b, o, rfl, fun i hi j hj => ?_⟩
      have hi' : i < len := by simpa using hi
      have h1 := (hf0 i hi').1 j hj
      rw [add4_add] at h1
      rw [h1]
      simp
    · obtain ⟨i, hi, rfl⟩ := List.mem_map.1 hx
      exact (hf0 i (by simpa using hi)).2

theorem rows_in {H : Type} {enc : TypeId × Value → H} {w : World} {base : Nat} {held : Bool} {fuel len cap : Nat} {a : Option Addr} {x : DataW H × List MemPlace}
    (hf : DataW.trod enc Try.prog w base (fun _ => true) held fuel 53 [.slice a len cap] = some x) : ∃ rs : List (List Int), rs.length = len ∧ RowsIn w (.slice a len cap) rs ∧ ∀ r ∈ rs, ∀ x ∈ r, I64 x := by
  rcases Deep.open_int_rows Try.underlying53 Try.underlying22 Try.underlying3 (by kernel_rfl) (by kernel_rfl) hf with ⟨hcs, _⟩ | ⟨ad, len', cap', A, L, C, Z, hcs, hb, hl, hm, _, hr⟩
  · simp at hcs
    obtain ⟨rfl, rfl, rfl⟩ := hcs
    exact ⟨[], rfl, ⟨none, 0, rfl, fun h => by simp at h⟩, fun x hx => by cases hx⟩
  · simp at hcs
    obtain ⟨rfl, rfl, rfl⟩ := hcs
    have each : ∀ i, i < len → ∃ r : List Int, r.length = L i ∧ Ints w (.slice (A i) (L i) (C i)) r ∧ ∀ n ∈ r, I64 n := fun i hi => by
      obtain ⟨h1, h2, h3, h4, h5, h6, h7⟩ := hr i (by omega)
      refine ints_in w (A i) (L i) (C i) (Z i) ?_
      cases hA : A i with
      | none =>
        have h8 := h6 hA
        exact .inl ⟨rfl, by omega, h8, List.eq_nil_of_length_eq_zero (by omega)⟩
      | some ad => exact .inr ⟨ad, rfl, h2, h3, h4, fun c hc => (h7 ad hA).2 c (by omega), h5⟩
    have hchoose : ∃ f : Nat → List Int, ∀ i, i < len → (f i).length = L i ∧ Ints w (.slice (A i) (L i) (C i)) (f i) ∧ ∀ n ∈ f i, I64 n :=
      ⟨fun i => if h : i < len then Classical.choose (each i h) else [], fun i hi => by dsimp only; rw [dif_pos hi]; exact Classical.choose_spec (each i hi)⟩
    obtain ⟨f, hf0⟩ := hchoose
    refine ⟨(List.range len).map f, by simp, ⟨some ad, cap, by simp, fun h0 => ?_⟩, fun x hx => ?_⟩
    · have h0' : 0 < len := by simpa using h0
      obtain ⟨b, o, sp⟩ := ad
      have h00 := (hr 0 (by omega)).1
      have e0 : ((⟨b, o, sp⟩ : Addr).add 0) = ⟨b, o, sp⟩ := by unfold Addr.add; simp
      rw [e0] at h00
      have hs : sp = none := spot4_none h00
      subst hs
      refine ⟨b, o, rfl, fun i hi => ?_⟩
      have hi' : i < len := by simpa using hi
      obtain ⟨h1, h2, _⟩ := hf0 i hi'
      have hg : ((List.range len).map f)[i] = f i := by simp
      rw [hg, h1]
      refine ⟨A i, C i, ?_, h2⟩
      have h3 := (hr i (by omega)).1
      have e1 : ((⟨b, o, none⟩ : Addr).add i) = ⟨b, o + i, none⟩ := by unfold Addr.add; split <;> simp_all
      rw [e1] at h3
      exact h3
    · obtain ⟨i, hi, rfl⟩ := List.mem_map.1 hx
      exact (hf0 i (by simpa using hi)).2.2
end Go.Proofs.Ytafnadaahnkcmaa
