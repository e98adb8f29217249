/- What a press, a state and their lists that came in read as. -/
import Derived.Test.YtojobdffnnibaaaGreatJ1
import Derived.Test.YtojobdffnnibaaaGreatJ2
import Derived.Test.YtojobdffnnibaaaGreatRows1
import Derived.OpenShut
import Derived.Lib.SmallJoins
import Derived.Deep.Grids
import Derived.SizedLaws
namespace Go.Proofs.YtojobdffnnibaaaGreat
open Go.RowKit Go.ChangeShapes
set_option linter.unusedVariables false

theorem spot7_none {w : World} {a : Addr} {v : Value} (h : w.cell? a = some v) : a.spot = none := by
  unfold World.cell? at h
  split at h
  · split at h
    · cases h
    · rename_i hs; simpa using hs
  · cases h
theorem add7 (b o m : Nat) : ((⟨b, o, none⟩ : Addr).add m) = ⟨b, o + m, none⟩ := by unfold Addr.add; split <;> simp_all
theorem add7_add (b o m j : Nat) : (((⟨b, o, none⟩ : Addr).add m).add j) = ⟨b, o + m + j, none⟩ := by rw [add7, add7]
theorem cells5 {w : World} {base : Nat} {a : Addr} {cs : List Value} (h : w.cells? base a 5 = some cs) : ∃ c0 c1 c2 c3 c4, cs = [c0, c1, c2, c3, c4] ∧ w.cell? (a.add 0) = some c0 ∧ w.cell? (a.add 1) = some c1 ∧ w.cell? (a.add 2) = some c2 ∧ w.cell? (a.add 3) = some c3 ∧ w.cell? (a.add 4) = some c4 := by
  unfold World.cells? at h
  split at h
  · have r5 : List.range 5 = [0, 1, 2, 3, 4] := rfl
    rw [r5] at h
    simp only [List.mapM_cons, List.mapM_nil, bind, Option.bind_eq_some_iff, pure, Option.some.injEq] at h
    obtain ⟨c0, h0, _, ⟨c1, h1, _, ⟨c2, h2, _, ⟨c3, h3, _, ⟨c4, h4, _, rfl, rfl⟩, rfl⟩, rfl⟩, rfl⟩, rfl⟩ := h
    exact ⟨c0, c1, c2, c3, c4, rfl, h0, h1, h2, h3, h4⟩
  · cases h
theorem trod_struct5 {H : Type} {enc : TypeId × Value → H} {P : Program} {w : World} {base : Nat} {spare : Nat → Bool} {held : Bool} {t : TypeId} {f0 f1 f2 f3 f4 : Field} {fuel : Nat} {cs : List Value} {x : DataW H × List MemPlace} (ht : P.underlying t = some (.struct #[f0, f1, f2, f3, f4])) (h : DataW.trod enc P w base spare held fuel t cs = some x) :
    ∃ y0 y1 y2 y3 y4 n, DataW.trod enc P w base spare held n f0.type ((cs.drop f0.offset).take (P.cellsOf f0.type)) = some y0 ∧ DataW.trod enc P w base spare held n f1.type ((cs.drop f1.offset).take (P.cellsOf f1.type)) = some y1 ∧
      DataW.trod enc P w base spare held n f2.type ((cs.drop f2.offset).take (P.cellsOf f2.type)) = some y2 ∧ DataW.trod enc P w base spare held n f3.type ((cs.drop f3.offset).take (P.cellsOf f3.type)) = some y3 ∧ DataW.trod enc P w base spare held n f4.type ((cs.drop f4.offset).take (P.cellsOf f4.type)) = some y4 := by
  obtain ⟨xs, n, _, rfl, hl, hlen, hf⟩ := DataW.trod_struct ht h
  match xs, hlen with
  | [y0, y1, y2, y3, y4], _ => exact ⟨y0, y1, y2, y3, y4, n, by simpa using hf 0 f0 rfl, by simpa using hf 1 f1 rfl, by simpa using hf 2 f2 rfl, by simpa using hf 3 f3 rfl, by simpa using hf 4 f4 rfl⟩

theorem truths_in {H : Type} {enc : TypeId × Value → H} {w : World} {base : Nat} {held : Bool} {fuel len cap : Nat} {a : Option Addr} {x : DataW H × List MemPlace}
    (hf : DataW.trod enc Tryz.prog w base (fun _ => true) held fuel 22 [.slice a len cap] = some x) : ∃ bs : List Bool, bs.length = len ∧ Truths w (.slice a len cap) bs := by
  rcases Deep.open_bools Tryz.underlying22 Tryz.underlying4 (by kernel_rfl) hf with ⟨hcs, _⟩ | ⟨a, len', cap', B, hcs, _, hl, hm, _, hc⟩
  · simp at hcs
    obtain ⟨rfl, rfl, rfl⟩ := hcs
    exact ⟨[], rfl, Sl.nil w⟩
  · simp at hcs
    obtain ⟨rfl, rfl, rfl⟩ := hcs
    unfold maxLen at hm
    refine ⟨(List.range len).map B, by simp, by simp; omega, some a, cap, by simp, fun h => (by cases h), fun h0 => ?_⟩
    have h0' : 0 < len := by simpa using h0
    obtain ⟨b, o, sp⟩ := a
    have h00 := hc 0 (by omega)
    have e0 : ((⟨b, o, sp⟩ : Addr).add 0) = ⟨b, o, sp⟩ := by unfold Addr.add; simp
    rw [e0] at h00
    have hs : sp = none := spot7_none h00
    subst hs
    refine ⟨b, o, rfl, fun i u hu => ?_⟩
    rw [List.getElem?_map, List.getElem?_map] at hu
    obtain ⟨y, hy, rfl⟩ := Option.map_eq_some_iff.1 hu
    obtain ⟨z, hz, rfl⟩ := Option.map_eq_some_iff.1 hy
    obtain ⟨hi, rfl⟩ := List.getElem?_eq_some_iff.1 hz
    rw [List.length_range] at hi
    have h1 := hc i (by omega)
    rw [add7] at h1
    rw [h1]
    simp

theorem units_in {H : Type} {enc : TypeId × Value → H} {w : World} {base : Nat} {spare : Nat → Bool} {held : Bool} {fuel len cap : Nat} {a : Option Addr} {x : DataW H × List MemPlace}
    (hf : DataW.trod enc Tryz.prog w base spare held fuel 25 [.slice a len cap] = some x) : ∃ us : List UnitD, us.length = len ∧ UnIn w (.slice a len cap) us ∧ ∀ u ∈ us, I64 u.ink := by
  rcases DataW.trod_slice Tryz.underlying25 hf with ⟨hcs, _⟩ | ⟨a, len', cap', elems, rest, n, _, hcs, _, hb, hl, hm, hlen, hel, hsp, hns⟩
  · simp at hcs
    obtain ⟨rfl, rfl, rfl⟩ := hcs
    exact ⟨[], rfl, UnIn.nil w, fun x hx => by cases hx⟩
  · simp at hcs
    obtain ⟨rfl, rfl, rfl⟩ := hcs
    have hce : Tryz.prog.cellsOf 63 = 5 := by kernel_rfl
    have hc1 : Tryz.prog.cellsOf 3 = 1 := by kernel_rfl
    have hcb : Tryz.prog.cellsOf 4 = 1 := by kernel_rfl
    unfold maxLen at hm
    have each : ∀ i, i < len → ∃ f : UnitD, (∀ j, j < 5 → w.cell? ((a.add (i * 5)).add j) = (uC f)[j]?) ∧ I64 f.ink := fun i hi => by
      have h1 := hel i hi
      rw [hce, List.getElem?_eq_getElem (by omega), Option.bind_eq_some_iff] at h1
      obtain ⟨cs, h2, h3⟩ := h1
      obtain ⟨c0, c1, c2, c3, c4, rfl, k0, k1, k2, k3, k4⟩ := cells5 h2
      obtain ⟨y0, y1, y2, y3, y4, m, t0, t1, t2, t3, t4⟩ := trod_struct5 Tryz.underlying63 h3
      obtain ⟨n0, e0, _⟩ := DataW.trod_bool Tryz.underlying4 t0
      obtain ⟨n1, e1, _⟩ := DataW.trod_bool Tryz.underlying4 t1
      obtain ⟨n2, e2, _⟩ := DataW.trod_bool Tryz.underlying4 t2
      obtain ⟨n3, e3, _⟩ := DataW.trod_bool Tryz.underlying4 t3
      obtain ⟨n4, e4, _, w4⟩ := DataW.trod_int Tryz.underlying3 t4
      rw [hcb] at e0 e1 e2 e3
      rw [hc1] at e4
      simp at e0 e1 e2 e3 e4
      subst e0 e1 e2 e3 e4
      refine ⟨⟨n0, n1, n2, n3, n4⟩, fun j hj => ?_, bounds_i64 w4⟩
      have : j = 0 ∨ j = 1 ∨ j = 2 ∨ j = 3 ∨ j = 4 := by omega
      rcases this with rfl | rfl | rfl | rfl | rfl
      · simpa [uC] using k0
      · simpa [uC] using k1
      · simpa [uC] using k2
      · simpa [uC] using k3
      · simpa [uC] using k4
    have hchoose : ∃ f : Nat → UnitD, ∀ i, i < len → (∀ j, j < 5 → w.cell? ((a.add (i * 5)).add j) = (uC (f i))[j]?) ∧ I64 (f i).ink :=
      ⟨fun i => if h : i < len then Classical.choose (each i h) else default, fun i hi => by dsimp only; rw [dif_pos hi]; exact Classical.choose_spec (each i hi)⟩
    obtain ⟨f, hf0⟩ := hchoose
    refine ⟨(List.range len).map f, by simp, ⟨by simp; omega, some a, cap, by simp, fun h => (by cases h), fun h0 => ?_⟩, fun x hx => ?_⟩
    · have h0' : 0 < len := by simpa using h0
      obtain ⟨b, o, sp⟩ := a
      have h00 := (hf0 0 h0').1 0 (by omega)
      have e0 : (((⟨b, o, sp⟩ : Addr).add (0 * 5)).add 0) = ⟨b, o, sp⟩ := by unfold Addr.add; simp
      rw [e0] at h00
      have hs : sp = none := spot7_none (v := .bool (f 0).op) h00
      subst hs
      refine ⟨b, o, rfl, fun i hi j hj => ?_⟩
      have hi' : i < len := by simpa using hi
      have h1 := (hf0 i hi').1 j hj
      rw [add7_add] at h1
      rw [h1]
      simp
    · obtain ⟨i, hi, rfl⟩ := List.mem_map.1 hx
      exact (hf0 i (by simpa using hi)).2

/-- How long the datum of a slice is. -/
def LenD {H : Type} (d : DataW H) (n : Nat) : Prop := n = 0 ∨ ∃ elems spare, d = .slice elems spare ∧ elems.length = n
theorem slice_len_in {H : Type} {enc : TypeId × Value → H} {P : Program} {w : World} {base : Nat} {spare : Nat → Bool} {held : Bool} {fuel len cap : Nat} {t e : TypeId} {a : Option Addr} {x : DataW H × List MemPlace} (ht : P.underlying t = some (.slice e))
    (hf : DataW.trod enc P w base spare held fuel t [.slice a len cap] = some x) : LenD x.1 len := by
  rcases DataW.trod_slice ht hf with ⟨hcs, _⟩ | ⟨a', len', cap', elems, rest, n, _, hcs, hx, _, _, _, hlen, _⟩
  · simp at hcs
    exact .inl hcs.2.1
  · simp at hcs
    obtain ⟨_, rfl, _⟩ := hcs
    exact .inr ⟨_, _, by rw [hx], by simpa using hlen⟩
set_option maxRecDepth 100000 in
theorem press_in {H : Type} {enc : TypeId × Value → H} {w : World} {base : Nat} {held : Bool} {r : Reach} {b0 : Nat} {v : Value} {d : DataW H} {p : List MemPlace} (hv : Value.okWide Tryz.prog w r b0 24 v) (h : DataW.Trod enc Tryz.prog w base (fun _ => true) held 24 v d p) :
    ∃ (q : PressD) (a : Option Addr) (c : Nat), v = .agg #[.slice a q.jam.length c, .int .i64 q.warm, .int .i64 q.tail, .int .i64 q.dirt] ∧ Truths w (.slice a q.jam.length c) q.jam ∧ q.fits ∧ ∃ d0 d1 d2 d3, d = .agg [d0, d1, d2, d3] ∧ LenD d0 q.jam.length := by
  obtain ⟨c0, c1, c2, c3, y0, y1, y2, y3, m0, rfl, hd, _, q0, q1, q2, q3⟩ := Go.Joins.open_agg4 Tryz.underlying24 (by kernel_rfl) (by kernel_rfl) hv h
  obtain ⟨n1, e1, _, w1⟩ := DataW.trod_int Tryz.underlying3 q1
  obtain ⟨n2, e2, _, w2⟩ := DataW.trod_int Tryz.underlying3 q2
  obtain ⟨n3, e3, _, w3⟩ := DataW.trod_int Tryz.underlying3 q3
  simp at e1 e2 e3
  subst e1 e2 e3
  obtain ⟨a, l, c, e0⟩ := Go.Joins.slice_form Tryz.underlying22 q0
  simp at e0
  subst e0
  have hl := slice_len_in Tryz.underlying22 q0
  obtain ⟨bs, rfl, hb⟩ := truths_in q0
  exact ⟨⟨bs, n1, n2, n3⟩, a, c, rfl, hb, ⟨bounds_i64 w1, bounds_i64 w2, bounds_i64 w3⟩, _, _, _, _, hd, hl⟩
set_option maxRecDepth 100000 in
theorem state_in {H : Type} {enc : TypeId × Value → H} {w : World} {base : Nat} {held : Bool} {r : Reach} {b0 : Nat} {v : Value} {d : DataW H} {p : List MemPlace} (hv : Value.okWide Tryz.prog w r b0 27 v) (h : DataW.Trod enc Tryz.prog w base (fun _ => true) held 27 v d p) :
    ∃ (s : StD) (a : Option Addr) (c : Nat), v = .agg #[.int .i64 s.drive, .bool s.folder, .slice a s.units.length c, .int .i64 s.fresh] ∧ UnIn w (.slice a s.units.length c) s.units ∧ s.fits ∧ ∃ d0 d1 d2 d3, d = .agg [d0, d1, d2, d3] ∧ LenD d2 s.units.length := by
  obtain ⟨c0, c1, c2, c3, y0, y1, y2, y3, m0, rfl, hd, _, q0, q1, q2, q3⟩ := Go.Joins.open_agg4 Tryz.underlying27 (by kernel_rfl) (by kernel_rfl) hv h
  obtain ⟨n0, e0, _, w0⟩ := DataW.trod_int Tryz.underlying3 q0
  obtain ⟨n1, e1, _⟩ := DataW.trod_bool Tryz.underlying4 q1
  obtain ⟨n3, e3, _, w3⟩ := DataW.trod_int Tryz.underlying3 q3
  simp at e0 e1 e3
  subst e0 e1 e3
  obtain ⟨a, l, c, e2⟩ := Go.Joins.slice_form Tryz.underlying25 q2
  simp at e2
  subst e2
  have hl := slice_len_in Tryz.underlying25 q2
  obtain ⟨us, rfl, hu, hi⟩ := units_in q2
  exact ⟨⟨n0, n1, us, n3⟩, a, c, rfl, hu, ⟨bounds_i64 w0, bounds_i64 w3, hi⟩, _, _, _, _, hd, hl⟩
set_option maxRecDepth 100000 in
theorem nums_in {H : Type} {enc : TypeId × Value → H} {w : World} {base : Nat} {held : Bool} {v : Value} {d : DataW H} {p : List MemPlace} {r : Reach} {b0 : Nat} (hv : Value.okWide Tryz.prog w r b0 31 v) (h : DataW.Trod enc Tryz.prog w base (fun _ => true) held 31 v d p) :
    ∃ xs : List Int, Ints w v xs ∧ ∀ n ∈ xs, I64 n := by
  obtain ⟨a, len, cap, rfl⟩ := Go.WideShapes.okWide_slice Tryz.underlying31 hv
  obtain ⟨fuel, hf⟩ := h
  have key : ∃ zs : List Int, (a = none ∧ len = 0 ∧ cap = 0 ∧ zs = []) ∨ ∃ x, a = some x ∧ len ≤ cap ∧ cap ≤ maxLen ∧ zs.length = cap ∧ (∀ i, i < zs.length → w.cell? (x.add i) = some (.int .i64 (zs.getD i 0))) ∧ ∀ n ∈ zs, (Lit.int .i64 n).wf = true := by
    rcases open_ints Tryz.underlying31 Tryz.underlying3 (by kernel_rfl) hf with ⟨hcs, _⟩ | ⟨x, l, c, zs, hcs, _, hl, hm, hz, _, hcell, hwz⟩
    · simp [Value.cells] at hcs
      obtain ⟨rfl, rfl, rfl⟩ := hcs
      exact ⟨[], .inl ⟨rfl, rfl, rfl, rfl⟩⟩
    · simp [Value.cells] at hcs
      obtain ⟨rfl, rfl, rfl⟩ := hcs
      exact ⟨zs, .inr ⟨_, rfl, hl, hm, by simpa using hz, hcell, hwz⟩⟩
  obtain ⟨zs, hzs⟩ := key
  obtain ⟨xs, _, h1, h2⟩ := ints_in w a len cap zs hzs
  exact ⟨xs, h1, h2⟩
end Go.Proofs.YtojobdffnnibaaaGreat
